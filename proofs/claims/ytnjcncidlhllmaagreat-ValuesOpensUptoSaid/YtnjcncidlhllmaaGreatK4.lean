/- Several texts in one: RefU03, Slices8, Rd. -/
import Derived.Test.YtnjcncidlhllmaaGreatK3
namespace Go.Proofs.YtnjcncidlhllmaaGreat
set_option linter.unusedVariables false
set_option linter.unusedSimpArgs false
open Go.RowKit

theorem shr_big (x k : Nat) (h : 2 ^ k ≤ x) : ((((x : Int) / 2 ^ k)) == 0) = false := by
  have := shr_ne x k
  rw [decide_eq_true h] at this
  simpa using this
theorem shr_small (x k : Nat) (h : x < 2 ^ k) : ((x : Int) / 2 ^ k) = 0 := by
  rw [int_shr, Nat.shiftRight_eq_div_pow, Nat.div_eq_of_lt h]
  rfl
theorem wid_mono (l : List Nat) (j : Nat) (hj : j < l.length) : wid (l.take (j + 1)) = max (wid (l.take j)) (Lib.bitLen (l.getD j 0)) := by rw [take_snocN hj, wid_snoc]

set_option maxRecDepth 100000 in
set_option maxHeartbeats 800000 in
theorem refWidth_any (A : Option Addr) (n c B : Nat) (l : List Nat) (w : World) (hl : l.length = n) (hi : In64 l) (hn : n ≤ c) (hc : c ≤ maxLen) (hr : Rd w B A (nz l)) :
    Calls Tryz.prog 143 #[.slice A n c] w (Ret (.int .i64 (wid l : Nat)) w) := by
  unfold maxLen at hc
  have HR := hide hr
  have HL := hide hl
  have HI := hide hi
  clear hr hl hi
  go_enter Tryz.func143, Tryz.ntmps143
  go_wp2
  go_loop [3, 4] (fun y i => ∃ k u : Nat, k ≤ n ∧ i = .int .i64 k ∧ y = .int .i64 (u : Nat) ∧ u ≤ 64 ∧ Hid (u = wid (l.take k))) (fun _ i => n - (intOf i).toNat)
  case atStart => exact ⟨0, 0, by omega, rfl, rfl, by omega, hide rfl⟩
  case round =>
    obtain ⟨k, u, hk, rfl, rfl, hu, HU⟩ := hrel
    by_cases hlt : k < n
    · have h1 : k < l.length := by rw [HL.out]; exact hlt
      obtain ⟨ad, rfl, _, hcell⟩ := HR.out.natAt h1
      have hx := HI.out.at k
      have HW := hide (wid_mono l k h1)
      have HW64 := hide (wid_take HI.out (k + 1))
      generalize l.getD k 0 = x at hcell hx HW
      rw [← HU.out] at HW
      have HB := hide (fun w => blen_le (x := x) w hx)
      generalize Lib.bitLen x = bl at HW HB
      clear h1
      go_wp2
      go_loop [3] (fun y => ∃ v : Nat, y = .int .i64 (v : Nat) ∧ v ≤ 64 ∧ Hid (u ≤ v) ∧ Hid (v ≤ wid (l.take (k + 1)))) (fun y => 64 - (intOf y).toNat)
      case atStart => exact ⟨u, rfl, hu, hide (Nat.le_refl _), hide (by rw [HW.out]; omega)⟩
      case round =>
        obtain ⟨v, rfl, hv, HV1, HV2⟩ := hrel
        by_cases hv64 : v < 64
        · by_cases hbig : 2 ^ v ≤ x
          · have hs := shr_big x v hbig
            have hs2 : ((((x : Int) / 2 ^ v)) != 0) = true := by rw [bne, hs]; rfl
            have HN : Hid (v + 1 ≤ wid (l.take (k + 1))) := hide (by
              rw [HW.out]
              have : ¬ bl ≤ v := fun h => by have := (HB.out v).1 h; omega
              omega)
            clear hbig hs
            go_wp2
            go_round
            case rel => exact ⟨v + 1, by go_num, by omega, hide (by have := HV1.out; omega), HN⟩
            case measure => simp [intOf]; omega
          · have hs := shr_small x v (by omega)
            have HN : Hid (v = wid (l.take (k + 1))) := hide (by
              have h1 := HV2.out
              have h2 := HV1.out
              have h3 : bl ≤ v := (HB.out v).2 (by omega)
              rw [HW.out] at h1 ⊢
              omega)
            clear hbig
            go_wp2
            go_round
            case rel => exact ⟨k + 1, v, by omega, by go_num, rfl, hv, HN⟩
            case measure => simp [intOf]; omega
        · obtain rfl : v = 64 := by omega
          have HN : Hid (64 = wid (l.take (k + 1))) := hide (by have := HV2.out; have := HW64.out; omega)
          go_wp2
          go_round
          case rel => exact ⟨k + 1, 64, by omega, by go_num, rfl, by omega, HN⟩
          case measure => simp [intOf]; omega
    · obtain rfl : k = n := by omega
      have HT := hide (show u = wid l by rw [HU.out, ← HL.out, List.take_length])
      go_wp2
      go_ret
      exact ⟨by rw [← HT.out]; rfl, rfl⟩

theorem bbit_val (b : UInt8) (s : Nat) : bits .and .u64 (IntKind.u64.wrap ((b.toNat : Int) / 2 ^ s)) 1 = (((if b.toNat.testBit s then 1 else 0 : Nat)) : Int) := by
  have hb := b.toNat_lt
  have hs : b.toNat >>> s < 18446744073709551616 := by
    rw [Nat.shiftRight_eq_div_pow]
    exact Nat.lt_of_le_of_lt (Nat.div_le_self _ _) (by omega)
  rw [int_shr]
  have e0 : IntKind.u64.wrap ((b.toNat >>> s : Nat) : Int) = ((b.toNat >>> s : Nat) : Int) := by
    generalize b.toNat >>> s = z at hs ⊢
    rw [IntKind.wrap_u64]
    omega
  rw [e0]
  have h := u64_and_nat (b.toNat >>> s) 1 hs (by omega)
  rw [show ((1 : Nat) : Int) = 1 from rfl] at h
  rw [h, Nat.and_one_is_mod]
  have ht : b.toNat.testBit s = decide ((b.toNat >>> s) % 2 = 1) := by
    rw [Nat.testBit_eq_decide_div_mod_eq, Nat.shiftRight_eq_div_pow]
  rw [ht]
  by_cases e : (b.toNat >>> s) % 2 = 1
  · rw [decide_eq_true e, if_pos rfl, e]
  · rw [decide_eq_false e, if_neg (by decide)]
    have : (b.toNat >>> s) % 2 = 0 := by omega
    rw [this]
set_option maxRecDepth 100000 in
set_option maxHeartbeats 400000 in
theorem bit_any (A : Option Addr) (m c B p : Nat) (b : List UInt8) (w : World) (hl : b.length = m) (hn : m ≤ c) (hc : c ≤ maxLen) (hm : m ≤ 140737488355328) (hp : p < 8 * m) (hr : Rd w B A (by8 b)) :
    Calls Tryz.prog 142 #[.slice A m c, .int .i64 (p : Nat)] w (Ret (.int .u64 ((if bbit b p then 1 else 0 : Nat) : Int)) w) := by
  unfold maxLen at hc
  have hq : p / 8 < m := by omega
  obtain ⟨ad, rfl, _, hcell⟩ := hr.byte (k := p / 8) (by rw [hl]; exact hq)
  have HV := hide (bbit_val (b.getD (p / 8) 0) (p % 8))
  have hy := (b.getD (p / 8) 0).toNat_lt
  obtain ⟨s8, hs8⟩ : ∃ s, s = p % 8 := ⟨_, rfl⟩
  obtain ⟨q8, hq8⟩ : ∃ s, s = p / 8 := ⟨_, rfl⟩
  have e1 : (p : Int) % 8 = (s8 : Int) := by omega
  have e2 : (p : Int) / 8 = (q8 : Int) := by omega
  unfold bbit
  rw [← hs8, ← hq8] at HV ⊢
  rw [← hq8] at hcell hq hy
  have h7 : s8 ≤ 7 := by omega
  have HVV := hide HV.out
  generalize hx : (b.getD q8 0).toNat = x at hcell hy HVV ⊢
  generalize (((if x.testBit s8 = true then 1 else 0 : Nat)) : Int) = r at HVV ⊢
  clear hr hl hs8 hq8 hx HV
  go_enter Tryz.func142, Tryz.ntmps142
  go_wp2
  go_ret
  exact ⟨by rw [← HVV.out]; rfl, rfl⟩

/-! Bits. -/
theorem nbit_val {x k : Nat} (hx : x < 18446744073709551616) : bits .and .u64 ((x : Int) / 2 ^ k) 1 = (((if x.testBit k then 1 else 0 : Nat)) : Int) := by
  have hs : x >>> k < 18446744073709551616 := by
    rw [Nat.shiftRight_eq_div_pow]
    exact Nat.lt_of_le_of_lt (Nat.div_le_self _ _) hx
  rw [int_shr]
  have h := u64_and_nat (x >>> k) 1 hs (by omega)
  rw [show ((1 : Nat) : Int) = 1 from rfl] at h
  rw [h, Nat.and_one_is_mod]
  have ht : x.testBit k = decide ((x >>> k) % 2 = 1) := by
    rw [Nat.testBit_eq_decide_div_mod_eq, Nat.shiftRight_eq_div_pow]
  rw [ht]
  by_cases e : (x >>> k) % 2 = 1
  · rw [decide_eq_true e, if_pos rfl, e]
  · rw [decide_eq_false e, if_neg (by decide)]
    have : (x >>> k) % 2 = 0 := by omega
    rw [this]
theorem one_val {s old : Nat} (hs : s ≤ 7) (ho : old < 256) : bits .or .u8 (old : Int) ((2 : Int) ^ s % 256) = ((old ||| 2 ^ s : Nat) : Int) := by
  have e : (2 : Int) ^ s % 256 = ((2 ^ s : Nat) : Int) := by
    have : s = 0 ∨ s = 1 ∨ s = 2 ∨ s = 3 ∨ s = 4 ∨ s = 5 ∨ s = 6 ∨ s = 7 := by omega
    rcases this with rfl | rfl | rfl | rfl | rfl | rfl | rfl | rfl <;> decide
  rw [e]
  exact u8_or_nat _ _ ho (by have : 2 ^ s ≤ 2 ^ 7 := p2 hs; omega)
/-- one bit more. -/
theorem bit_on {wd j q m t : Nat} {l : List Nat} (ht : t = wd * j + q) (hq : q < wd) (hb : (l.getD j 0).testBit q = true) :
    (by8 (pbys (pbit wd l) t m)).set (t / 8) (.int .u8 ((pby (pbit wd l) t (t / 8) ||| 2 ^ (t % 8) : Nat) : Int)) = by8 (pbys (pbit wd l) (t + 1) m) := by
  have e : part (l.getD j 0) q 1 (t % 8) = 2 ^ (t % 8) := by
    unfold part
    rw [show (2 : Nat) ^ 1 - 1 = 1 from rfl, Nat.and_one_is_mod, Nat.shiftLeft_eq]
    rw [Nat.testBit_eq_decide_div_mod_eq, ← Nat.shiftRight_eq_div_pow] at hb
    rw [of_decide_eq_true hb, Nat.one_mul]
  have h := bits_set (wd := wd) (j := j) (q := q) (d := 1) (m := m) (l := l) ht rfl rfl rfl rfl (by omega) (by omega)
  rwa [e] at h
theorem bit_off {wd j q m t : Nat} {l : List Nat} (ht : t = wd * j + q) (hq : q < wd) (hb : (l.getD j 0).testBit q = false) : pbys (pbit wd l) t m = pbys (pbit wd l) (t + 1) m := by
  have e : pbit wd l t = false := by rw [ht, pbit_at l hq, hb]
  unfold pbys
  apply List.map_congr_left
  intro i _
  congr 1
  unfold pby
  apply wN_congr
  intro r hr
  by_cases h : 8 * i + r = t
  · rw [h, e]; simp
  · by_cases h2 : 8 * i + r < t
    · rw [decide_eq_true h2, decide_eq_true (by omega)]
    · rw [decide_eq_false h2, decide_eq_false (by omega)]

set_option maxRecDepth 100000 in
set_option maxHeartbeats 400000 in
theorem refBits_out (A : Option Addr) (n c : Nat) (wi : Int) (w : World) (h : wi < 0 ∨ 64 < wi) :
    Calls Tryz.prog 145 #[.slice A n c, .int .i64 wi] w (Ret (.slice none 0 0) w) := by
  by_cases h1 : wi < 0
  · clear h
    go_enter Tryz.func145, Tryz.ntmps145
    go_wp2
    go_ret
    exact ⟨rfl, rfl⟩
  · have h2 : 64 < wi := by omega
    clear h
    go_enter Tryz.func145, Tryz.ntmps145
    go_wp2
    go_ret
    exact ⟨rfl, rfl⟩

theorem own_some {w : World} {base e n : Nat} {v : Value} {xs : List Value} (h : Own w base e 1 v n xs) (hn : 0 < n) : ∃ g c, v = .slice (some ⟨g, 0, none⟩) n c ∧ n ≤ c ∧ c ≤ maxLen ∧ base ≤ g ∧ g < w.heap.size := by
  obtain ⟨A, c, rfl, h1, h2, _⟩ := h.form
  obtain ⟨g, rfl, hb, hg, _⟩ := h.store hn
  exact ⟨g, c, rfl, h1, h2, hb, hg⟩
def mN (t : Nat) : Nat := (t + 7) / 8
set_option maxRecDepth 100000 in
set_option maxHeartbeats 4000000 in
theorem refBits_in (A : Option Addr) (n c B wd : Nat) (l : List Nat) (w : World) (hl : l.length = n) (hi : In64 l) (hn : n ≤ c) (hc : c ≤ maxLen) (hb : n ≤ 1048576) (hw : wd ≤ 64) (hB : B ≤ w.heap.size) (hr : Rd w B A (nz l)) :
    Calls Tryz.prog 145 #[.slice A n c, .int .i64 (wd : Nat)] w (GivesB w (packed wd l)) := by
  obtain ⟨i0, hi0, hz, hsz, hby⟩ := info_parts Tryz.info5
  unfold maxLen at hc
  have HR := hide hr
  have HL := hide hl
  have HI := hide hi
  have hwn : wd * n ≤ 64 * n := Nat.mul_le_mul_right _ hw
  clear hr hl hi
  go_enter Tryz.func145, Tryz.ntmps145
  go_wp2
  go_loopw [5, 6, 7, 8] (fun out at_ i k wr => ∃ j t m : Nat, j ≤ n ∧ i = .int .i64 j ∧ at_ = .int .i64 (t : Nat) ∧ Hid (t = wd * j) ∧ Hid (m = mN t) ∧ Hid (Own wr w.heap.size 5 1 out m (by8 (pbys (pbit wd l) t m))) ∧ Hid (Fr No w wr)) (fun _ _ i _ _ => n - (intOf i).toNat)
  case atStart => exact ⟨0, 0, 0, by omega, rfl, rfl, hide rfl, hide rfl, hide (Own.nil _ _ _ _), hide (Fr.refl _ _)⟩
  case round =>
    obtain ⟨j, T, m, hj, rfl, rfl, HT, HM, HOw, HFr⟩ := hrel
    by_cases hlt : j < n
    · have h1 : j < l.length := by rw [HL.out]; exact hlt
      obtain ⟨ad, rfl, _, hcell0⟩ := HR.out.natAt h1
      have hx := HI.out.at j
      have hT1 : wd * (j + 1) ≤ wd * n := Nat.mul_le_mul_left _ hlt
      have HT2 : Hid (wd * (j + 1) = T + wd) := hide (by rw [HT.out, Nat.mul_add, Nat.mul_one])
      have hTm : T + wd ≤ 67108864 := by have := HT2.out; omega
      have HCell := hide (fun W (f : Fr No w W) => f.cell hcell0 (fun h => h))
      obtain ⟨x, hxx⟩ : ∃ x, x = l.getD j 0 := ⟨_, rfl⟩
      rw [← hxx] at HCell hx
      have HX := hide hxx
      clear hT1 hxx h1 hcell0
      go_wp2
      go_loopw [5, 6, 8] (fun out at_ k wx => ∃ q t m : Nat, q ≤ wd ∧ Hid (t = T + q) ∧ k = .int .i64 (q : Nat) ∧ at_ = .int .i64 (t : Nat) ∧ Hid (m = mN t) ∧ Hid (Own wx w.heap.size 5 1 out m (by8 (pbys (pbit wd l) t m))) ∧ Hid (Fr No w wx)) (fun _ _ k _ => wd - (intOf k).toNat)
      case atStart => exact ⟨0, T, m, by omega, hide rfl, rfl, rfl, HM, HOw, HFr⟩
      case round =>
        clear HOw HFr HM
        obtain ⟨q, t, m, hq, HTT, rfl, rfl, HM, HOw, HFr⟩ := hrel
        by_cases hlt2 : q < wd
        · have htm : t ≤ 67108864 := by have := HTT.out; omega
          obtain ⟨s8, hs8⟩ : ∃ s, s = t % 8 := ⟨_, rfl⟩
          obtain ⟨q8, hq8⟩ : ∃ s, s = t / 8 := ⟨_, rfl⟩
          have e1 : (t : Int) % 8 = (s8 : Int) := by omega
          have e2 : (t : Int) / 8 = (q8 : Int) := by omega
          have hs88 : s8 ≤ 7 := by omega
          have hq88 : q8 ≤ 8388608 := by omega
          have HS8 := hide hs8
          have HQ8 := hide hq8
          have hmm : m = mN t := HM.out
          have hmu : mN t = if s8 = 0 then q8 else q8 + 1 := by unfold mN; split <;> omega
          have hM1 : mN (t + 1) = q8 + 1 := by unfold mN; omega
          have hnb := nbit_val (k := q) hx
          have hold8 := pby_lt (pbit wd l) t q8
          have HV := hide (one_val hs88 hold8)
          have HMo := hide (fun h => pbys_more (f := pbit wd l) (t := t) (m := m) h)
          clear hs8 hq8 hold8
          by_cases hbit : x.testBit q = true
          · rw [if_pos hbit] at hnb
            have HBit := hide hbit
            clear hbit
            by_cases h0 : s8 = 0
            · obtain rfl : q8 = m := by rw [hmm, hmu, if_pos h0]
              have HM1 : Hid (q8 + 1 = mN (t + 1)) := hide hM1.symm
              have HMo := hide (HMo.out (by have := HQ8.out; have := HS8.out; omega))
              have HV : Hid (bits .or .u8 ((pby (pbit wd l) t q8 : Nat) : Int) 1 = ((pby (pbit wd l) t q8 ||| 2 ^ s8 : Nat) : Int)) := hide (by have h := HV.out; rw [h0] at h ⊢; exact h)
              clear hmm hmu hM1
              have HS := hide (Src.one (P := Tryz.prog) wr (e := 5) Tryz.underlying25 (.int .u8 0) rfl)
              have HOw' := hide (HOw.out.fr0 ((Fr.refl No wr).alloc (.cells #[.int .u8 0] 5)))
              have b1 : (q8 + 1) * 1 ≤ 140737488355328 := by omega
              have b2 : q8 + 1 ≤ maxLen := by unfold maxLen; omega
              have b3 : w.heap.size ≤ (wr.alloc (.cells #[.int .u8 0] 5)).heap.size := by have := HFr.out.size; simp; omega
              go_wp2_with (at_builtin; refine wpList_append_gen _ rfl (.tmp 30) (.tmp 31) 25 25 rfl w.heap.size 5 i0 (.int .u8 0) 1 1 Tryz.underlying25 hi0 hz hsz hby rfl u5 q8 (by8 (pbys (pbit wd l) t q8)) rfl HOw'.out _ 1 [.int .u8 0] rfl HS.out b1 b2 b3 ?_; intro v1 w1 hown hfr hat; have HF1 : Hid (Fr No w w1) := hide ((HFr.out.alloc _).own hfr (fun g hg => .inl (HOw.out.lt g hg).1)); obtain ⟨g, c1, rfl, r1, r2, r3, r4⟩ := own_some hown (by omega); unfold maxLen at r2; have HOn : Hid (Own w1 w.heap.size 5 1 (.slice (some ⟨g, 0, none⟩) (q8 + 1) c1) (q8 + 1) (by8 (pbys (pbit wd l) t (q8 + 1)))) := hide (by rw [HMo.out, by8_append]; exact hown); have hcx := HCell.out _ HF1.out; clear hown hfr hat; obtain ⟨hs1, hs2, hs3⟩ := HOn.out.put (k := q8) (by omega); rw [pbys_cell (by omega)] at hs1; have HPut := hide hs3; clear hs3; obtain ⟨old, hold⟩ : ∃ o, o = pby (pbit wd l) t q8 := ⟨_, rfl⟩; rw [← hold] at hs1; have HOld := hide hold; clear hold)
              go_roundw
              case rel =>
                refine ⟨q + 1, t + 1, q8 + 1, by omega, hide (by rw [HTT.out]; omega), by go_num, by go_num, HM1, hide ?_, hide (Fr.setCell HF1.out (p := ⟨g, q8, none⟩) (fun hlt => by have : g < w.heap.size := hlt; omega) _)⟩
                have h := HPut.out (.int .u8 ((old ||| 2 ^ s8 : Nat) : Int))
                rw [HOld.out, HQ8.out, HS8.out, bit_on (HTT.out.trans (by rw [HT.out])) hlt2 (by rw [← HX.out]; exact HBit.out), ← HS8.out, ← HQ8.out, ← HOld.out] at h
                rw [HOld.out, HV.out, ← HOld.out]
                exact h
              case measure => simp [intOf]; omega
            · obtain rfl : m = q8 + 1 := by rw [hmm, hmu, if_neg h0]
              have HM1 : Hid (q8 + 1 = mN (t + 1)) := hide hM1.symm
              have h01 : 1 ≤ s8 := by omega
              clear hmm hmu hM1 HMo
              obtain ⟨g, c1, rfl, r1, r2, r3, r4⟩ := own_some HOw.out (by omega)
              unfold maxLen at r2
              have HOn := HOw
              have hcx := HCell.out _ HFr.out
              obtain ⟨hs1, hs2, hs3⟩ := HOn.out.put (k := q8) (by omega)
              rw [pbys_cell (by omega)] at hs1
              have HPut := hide hs3
              clear hs3
              obtain ⟨old, hold⟩ : ∃ o, o = pby (pbit wd l) t q8 := ⟨_, rfl⟩
              rw [← hold] at hs1
              have HOld := hide hold
              clear hold
              go_wp2
              go_roundw
              case rel =>
                refine ⟨q + 1, t + 1, q8 + 1, by omega, hide (by rw [HTT.out]; omega), by go_num, by go_num, HM1, hide ?_, hide (Fr.setCell HFr.out (p := ⟨g, q8, none⟩) (fun hlt => by have : g < w.heap.size := hlt; omega) _)⟩
                have h := HPut.out (.int .u8 ((old ||| 2 ^ s8 : Nat) : Int))
                rw [HOld.out, HQ8.out, HS8.out, bit_on (HTT.out.trans (by rw [HT.out])) hlt2 (by rw [← HX.out]; exact HBit.out), ← HS8.out, ← HQ8.out, ← HOld.out] at h
                rw [HOld.out, HV.out, ← HOld.out]
                exact h
              case measure => simp [intOf]; omega
          · have hbit : x.testBit q = false := by simpa using hbit
            rw [if_neg (by rw [hbit]; decide)] at hnb
            have HBit := hide hbit
            clear hbit
            by_cases h0 : s8 = 0
            · obtain rfl : q8 = m := by rw [hmm, hmu, if_pos h0]
              have HM1 : Hid (q8 + 1 = mN (t + 1)) := hide hM1.symm
              have HMo := hide (HMo.out (by have := HQ8.out; have := HS8.out; omega))
              clear hmm hmu hM1
              have HS := hide (Src.one (P := Tryz.prog) wr (e := 5) Tryz.underlying25 (.int .u8 0) rfl)
              have HOw' := hide (HOw.out.fr0 ((Fr.refl No wr).alloc (.cells #[.int .u8 0] 5)))
              have b1 : (q8 + 1) * 1 ≤ 140737488355328 := by omega
              have b2 : q8 + 1 ≤ maxLen := by unfold maxLen; omega
              have b3 : w.heap.size ≤ (wr.alloc (.cells #[.int .u8 0] 5)).heap.size := by have := HFr.out.size; simp; omega
              go_wp2_with (at_builtin; refine wpList_append_gen _ rfl (.tmp 30) (.tmp 31) 25 25 rfl w.heap.size 5 i0 (.int .u8 0) 1 1 Tryz.underlying25 hi0 hz hsz hby rfl u5 q8 (by8 (pbys (pbit wd l) t q8)) rfl HOw'.out _ 1 [.int .u8 0] rfl HS.out b1 b2 b3 ?_; intro v1 w1 hown hfr hat; have HF1 : Hid (Fr No w w1) := hide ((HFr.out.alloc _).own hfr (fun g hg => .inl (HOw.out.lt g hg).1)); obtain ⟨g, c1, rfl, r1, r2, r3, r4⟩ := own_some hown (by omega); unfold maxLen at r2; have HOn : Hid (Own w1 w.heap.size 5 1 (.slice (some ⟨g, 0, none⟩) (q8 + 1) c1) (q8 + 1) (by8 (pbys (pbit wd l) t (q8 + 1)))) := hide (by rw [HMo.out, by8_append]; exact hown); have hcx := HCell.out _ HF1.out; clear hown hfr hat)
              go_roundw
              case rel =>
                refine ⟨q + 1, t + 1, q8 + 1, by omega, hide (by rw [HTT.out]; omega), by go_num, by go_num, HM1, hide ?_, HF1⟩
                rw [← bit_off (HTT.out.trans (by rw [HT.out])) hlt2 (by rw [← HX.out]; exact HBit.out)]
                exact HOn.out
              case measure => simp [intOf]; omega
            · obtain rfl : m = q8 + 1 := by rw [hmm, hmu, if_neg h0]
              have HM1 : Hid (q8 + 1 = mN (t + 1)) := hide hM1.symm
              have h01 : 1 ≤ s8 := by omega
              clear hmm hmu hM1 HMo
              obtain ⟨g, c1, rfl, r1, r2, r3, r4⟩ := own_some HOw.out (by omega)
              unfold maxLen at r2
              have HOn := HOw
              have hcx := HCell.out _ HFr.out
              go_wp2
              go_roundw
              case rel =>
                refine ⟨q + 1, t + 1, q8 + 1, by omega, hide (by rw [HTT.out]; omega), by go_num, by go_num, HM1, hide ?_, HFr⟩
                rw [← bit_off (HTT.out.trans (by rw [HT.out])) hlt2 (by rw [← HX.out]; exact HBit.out)]
                exact HOn.out
              case measure => simp [intOf]; omega
        · obtain rfl : q = wd := by omega
          have HN : Hid (t = q * (j + 1)) := hide (by rw [HT2.out, HTT.out])
          go_wp2
          go_roundw
          case rel => exact ⟨j + 1, t, m, by omega, by go_num, rfl, HN, HM, HOw, HFr⟩
          case measure => simp [intOf]; omega
    · obtain rfl : j = n := by omega
      have hw8 := HOw.out.1
      go_wp2
      go_ret
      refine ⟨_, rfl, ?_, HFr.out⟩
      have h := HOw.out
      unfold packed
      rw [pbys_len, HL.out]
      rw [HM.out] at h
      rw [HT.out] at h
      exact h
theorem refBits_any (A : Option Addr) (n c B : Nat) (wi : Int) (l : List Nat) (w : World) (hl : l.length = n) (hi : In64 l) (hn : n ≤ c) (hc : c ≤ maxLen) (hb : n ≤ 1048576) (hB : B ≤ w.heap.size) (hr : Rd w B A (nz l)) :
    Calls Tryz.prog 145 #[.slice A n c, .int .i64 wi] w (GivesB w (bitsZ l wi)) := by
  unfold bitsZ
  by_cases h : wi < 0 ∨ 64 < wi
  · rw [if_neg (by omega)]
    exact (refBits_out A n c wi w h).mono fun e w' ⟨h1, h2⟩ => ⟨_, h1, Own.nil _ _ _ _, h2 ▸ Fr.refl _ _⟩
  · rw [if_pos (by omega)]
    obtain ⟨wd, rfl⟩ := Int.eq_ofNat_of_zero_le (a := wi) (by omega)
    rw [Int.toNat_natCast]
    exact refBits_in A n c B wd l w hl hi hn hc hb (by omega) hB hr
end Go.Proofs.YtnjcncidlhllmaaGreat
namespace Go.Proofs.YtnjcncidlhllmaaGreat
set_option linter.unusedVariables false
set_option linter.unusedSimpArgs false
open Go.RowKit

theorem part_one (y s q : Nat) : part y s 1 q = (if y.testBit s then 1 else 0) <<< q := by
  unfold part
  rw [show (2 : Nat) ^ 1 - 1 = 1 from rfl, Nat.and_one_is_mod]
  congr 1
  rw [Nat.testBit_eq_decide_div_mod_eq, ← Nat.shiftRight_eq_div_pow]
  by_cases e : (y >>> s) % 2 = 1
  · rw [decide_eq_true e, if_pos rfl, e]
  · rw [decide_eq_false e, if_neg (by decide)]
    omega
theorem ubit1 {wd j q t : Nat} {b : List UInt8} (hw : wd ≤ 64) (ht : t = wd * j + q) (hq : q < wd) :
    bits .or .u64 ((unum wd b t j : Nat) : Int) (IntKind.u64.wrap (((if bbit b t then 1 else 0 : Nat) : Int) * 2 ^ q)) = ((unum wd b (t + 1) j : Nat) : Int) := by
  have h := unpack_step (w := wd) (i := j) (k := q) (d := 1) b (by omega) (by omega)
  rw [← ht, part_one] at h
  rw [← h]
  have hb : ((b.getD (t / 8) 0).toNat).testBit (t % 8) = bbit b t := rfl
  rw [hb]
  have e : IntKind.u64.wrap (((if bbit b t then 1 else 0 : Nat) : Int) * 2 ^ q) = (((if bbit b t then 1 else 0) <<< q : Nat) : Int) := by
    have hp : 2 ^ q < 18446744073709551616 := Nat.pow_lt_pow_right (a := 2) (n := 64) (by omega) (by omega)
    rw [IntKind.wrap_u64, Nat.shiftLeft_eq]
    have e2 : ((2 : Int) ^ q) = ((2 ^ q : Nat) : Int) := by simp
    rw [e2]
    generalize 2 ^ q = p at hp
    split
    · simp; omega
    · simp
  rw [e]
  refine u64_or_nat _ _ (unum_lt64 hw b t j) ?_
  have hp : 2 ^ q < 18446744073709551616 := Nat.pow_lt_pow_right (a := 2) (n := 64) (by omega) (by omega)
  rw [Nat.shiftLeft_eq]
  split <;> omega
theorem unum_full {wd j n : Nat} {b : List UInt8} (hj : j < n) : unum wd b (wd * (j + 1)) j = unum wd b (wd * n) j := by
  have h : wd * (j + 1) ≤ wd * n := Nat.mul_le_mul_left _ hj
  unfold unum
  apply wN_congr
  intro q hq
  rw [Nat.mul_add, Nat.mul_one] at h ⊢
  rw [decide_eq_true (by omega), decide_eq_true (by omega)]
theorem unpacked_take {wd j n : Nat} {b : List UInt8} (hj : j < n) : nz ((unpacked wd n b).take j) ++ [.int .u64 ((unum wd b (wd * (j + 1)) j : Nat) : Int)] = nz ((unpacked wd n b).take (j + 1)) := by
  have hl : j < (unpacked wd n b).length := by rw [unpacked_len]; exact hj
  rw [take_snocN hl, nz_append, unum_full hj]
  congr 1
  have : (unpacked wd n b).getD j 0 = unum wd b (wd * n) j := by
    unfold unpacked
    rw [List.getD_eq_getElem?_getD, unums_at hj]
    rfl
  rw [this]
  rfl

set_option maxRecDepth 100000 in
set_option maxHeartbeats 400000 in
theorem refUnb_arg (A : Option Addr) (n c : Nat) (wi ni : Int) (w : World) (h : wi < 0 ∨ 64 < wi ∨ ni < 0 ∨ 1048576 < ni) :
    Calls Tryz.prog 118 #[.slice A n c, .int .i64 wi, .int .i64 ni] w (Ret (.tuple #[.slice none 0 0, .int .i64 1]) w) := by
  by_cases h1 : wi < 0
  · clear h
    go_enter Tryz.func118, Tryz.ntmps118
    go_wp2
    go_ret2
    exact ⟨rfl, rfl⟩
  · by_cases h2 : 64 < wi
    · clear h
      go_enter Tryz.func118, Tryz.ntmps118
      go_wp2
      go_ret2
      exact ⟨rfl, rfl⟩
    · by_cases h3 : ni < 0
      · clear h
        go_enter Tryz.func118, Tryz.ntmps118
        go_wp2
        go_ret2
        exact ⟨rfl, rfl⟩
      · have h4 : 1048576 < ni := by omega
        clear h
        go_enter Tryz.func118, Tryz.ntmps118
        go_wp2
        go_ret2
        exact ⟨rfl, rfl⟩

set_option maxRecDepth 100000 in
set_option maxHeartbeats 400000 in
theorem refUnb_len (A : Option Addr) (m c wd n : Nat) (w : World) (hw : wd ≤ 64) (hn : n ≤ 1048576) (h : m ≠ psz wd n) :
    Calls Tryz.prog 118 #[.slice A m c, .int .i64 (wd : Nat), .int .i64 (n : Nat)] w (Ret (.tuple #[.slice none 0 0, .int .i64 20]) w) := by
  have hwn : wd * n ≤ 64 * n := Nat.mul_le_mul_right _ hw
  have e : (wd : Int) * (n : Int) = ((wd * n : Nat) : Int) := by simp
  have e2 : (((wd * n : Nat) : Int) + 7) / 8 = ((psz wd n : Nat) : Int) := by unfold psz; omega
  have hb : ((m : Int) != ((psz wd n : Nat) : Int)) = true := by simp; omega
  generalize psz wd n = p at e2 hb
  generalize wd * n = q at e e2 hwn
  clear h
  go_enter Tryz.func118, Tryz.ntmps118
  go_wp2_with (rw [e])
  go_ret2
  exact ⟨rfl, rfl⟩

set_option maxRecDepth 100000 in
set_option maxHeartbeats 2000000 in
theorem refUnb_in (A : Option Addr) (m c B wd n : Nat) (b : List UInt8) (w : World) (hl : b.length = m) (hm : m = psz wd n) (hc1 : m ≤ c) (hc : c ≤ maxLen) (hn : n ≤ 1048576) (hw : wd ≤ 64) (hB : B ≤ w.heap.size) (hr : Rd w B A (by8 b)) :
    Calls Tryz.prog 118 #[.slice A m c, .int .i64 (wd : Nat), .int .i64 (n : Nat)] w (GivesUnb (if leftN b (wd * n) = 0 then (unpacked wd n b, 0) else ([], 20)) w) := by
  obtain ⟨r, hres⟩ : ∃ r, r = (if leftN b (wd * n) = 0 then (unpacked wd n b, 0) else ([], 20) : List Nat × Int) := ⟨_, rfl⟩
  rw [← hres]
  have HRes := hide hres
  have HLf := hide (leftN_iff (b := b) (t := wd * n) (by rw [hl, hm]; rfl))
  clear hres
  obtain ⟨i0, hi0, hz, hsz, hby⟩ := info_parts Tryz.infoKU64
  have HBit := hide (fun p W (hp : p < 8 * m) (f : Fr No w W) => bit_any A m c B p b W hl hc1 hc (by rw [hm]; unfold psz; have : wd * n ≤ 64 * n := Nat.mul_le_mul_right _ hw; omega) hp (hr.fr0 f))
  unfold maxLen at hc
  have hwn : wd * n ≤ 64 * n := Nat.mul_le_mul_right _ hw
  have hm8 : wd * n ≤ 8 * m := by rw [hm]; unfold psz; omega
  have hmb : m ≤ 8388608 := by rw [hm]; unfold psz; omega
  obtain ⟨tn, htn⟩ : ∃ t, t = wd * n := ⟨_, rfl⟩
  have e : (wd : Int) * (n : Int) = ((tn : Nat) : Int) := by rw [htn]; simp
  have e2 : (((tn : Nat) : Int) + 7) / 8 = ((m : Nat) : Int) := by rw [htn, hm]; unfold psz; omega
  have hb0 : ((m : Int) != (m : Int)) = false := by simp
  have HL := hide hl
  rw [← htn] at hwn hm8 HRes HLf
  have HTn := hide htn
  clear hr hl hm htn
  go_enter Tryz.func118, Tryz.ntmps118
  go_wp2_with (rw [e])
  rw [e2]
  clear e2 e
  go_loopw [8, 9, 10, 11, 12] (fun v at_ i u k wr => ∃ j t : Nat, j ≤ n ∧ i = .int .i64 j ∧ at_ = .int .i64 (t : Nat) ∧ Hid (t = wd * j) ∧ Hid (Own wr w.heap.size 79 1 v j (nz ((unpacked wd n b).take j))) ∧ Hid (Fr No w wr)) (fun _ _ i _ _ _ => n - (intOf i).toNat)
  case atStart => exact ⟨0, 0, by omega, rfl, rfl, hide rfl, hide (Own.nil _ _ _ _), hide (Fr.refl _ _)⟩
  case round =>
    obtain ⟨j, T, hj, rfl, rfl, HT, HOw, HFr⟩ := hrel
    by_cases hlt : j < n
    · have hT1 : wd * (j + 1) ≤ wd * n := Nat.mul_le_mul_left _ hlt
      have HT2 : Hid (wd * (j + 1) = T + wd) := hide (by rw [HT.out, Nat.mul_add, Nat.mul_one])
      have hTm : T + wd ≤ tn := by rw [HTn.out]; have := HT2.out; omega
      have HU0 := hide (unum_zero (w := wd) (b := b) (t := T) (j := j) (Nat.le_of_eq HT.out))
      clear hT1
      have hgw := HFr.out.size
      go_wp2
      go_loop [9, 11, 12] (fun at_ u k => ∃ q t y : Nat, q ≤ wd ∧ Hid (t = T + q) ∧ k = .int .i64 (q : Nat) ∧ at_ = .int .i64 (t : Nat) ∧ u = .int .u64 (y : Nat) ∧ Hid (y = unum wd b t j)) (fun _ _ k => wd - (intOf k).toNat)
      case atStart => exact ⟨0, T, 0, by omega, hide rfl, rfl, rfl, rfl, hide HU0.out.symm⟩
      case round =>
        obtain ⟨q, t, y, hq, HTT, rfl, rfl, rfl, HY⟩ := hrel
        by_cases hlt2 : q < wd
        · have htm : t < 8 * m := by have := HTT.out; omega
          have HV := hide (ubit1 (b := b) hw (HTT.out.trans (by rw [HT.out])) hlt2)
          rw [← HY.out] at HV
          have HB1 := hide (HBit.out t wr htm HFr.out)
          generalize (((if bbit b t then 1 else 0 : Nat)) : Int) = rb at HB1 HV
          go_wp2_with (go_at_call 142; refine HB1.out.mono ?_; rintro en w' ⟨rfl, rfl⟩)
          go_round
          case rel => exact ⟨q + 1, t + 1, _, by omega, hide (by rw [HTT.out]; omega), by go_num, by go_num, by rw [HV.out], hide rfl⟩
          case measure => simp [intOf]; omega
        · obtain rfl : q = wd := by omega
          have HN : Hid (t = q * (j + 1)) := hide (by rw [HT2.out, HTT.out])
          have HS := hide (Src.one (P := Tryz.prog) wr (e := 79) Tryz.underlying129 (.int .u64 (y : Nat)) rfl)
          have HOw' := hide (HOw.out.fr0 ((Fr.refl No wr).alloc (.cells #[.int .u64 (y : Nat)] 79)))
          have HNx := hide (unpacked_take (wd := q) (b := b) hlt)
          rw [← HN.out, ← HY.out] at HNx
          have b1 : (j + 1) * 8 ≤ 140737488355328 := by omega
          have b2 : j + 1 ≤ maxLen := by unfold maxLen; omega
          have b3 : w.heap.size ≤ (wr.alloc (.cells #[.int .u64 (y : Nat)] 79)).heap.size := by simp; omega
          go_wp2_with (at_builtin; refine wpList_append_gen _ rfl (.tmp 55) (.tmp 57) 129 129 rfl w.heap.size 79 i0 (.int .u64 0) 1 8 Tryz.underlying129 hi0 hz hsz hby rfl u8 j (nz ((unpacked q n b).take j)) rfl HOw'.out _ 1 [.int .u64 (y : Nat)] rfl HS.out b1 b2 b3 ?_; intro v1 w1 hown hfr hat; have HF1 : Hid (Fr No w w1) := hide ((HFr.out.alloc _).own hfr (fun g hg => .inl (HOw.out.lt g hg).1)); have HOn : Hid (Own w1 w.heap.size 79 1 v1 (j + 1) (nz ((unpacked q n b).take (j + 1)))) := hide (by rw [← HNx.out]; exact hown); clear hown hfr hat)
          go_roundw
          case rel => exact ⟨j + 1, t, by omega, by go_num, rfl, HN, HOn, HF1⟩
          case measure => simp [intOf]; omega
    · obtain rfl : j = n := by omega
      obtain rfl : T = tn := by rw [HTn.out, HT.out]
      go_wp2
      go_loop [9] (fun at_ => ∃ p : Nat, at_ = .int .i64 (p : Nat) ∧ T ≤ p ∧ p ≤ 8 * m ∧ Hid (∀ i, T ≤ i → i < p → bbit b i = false)) (fun at_ => 8 * m - (intOf at_).toNat)
      case atStart => exact ⟨T, rfl, Nat.le_refl _, hm8, hide (fun i h1 h2 => by omega)⟩
      case round =>
        obtain ⟨p, rfl, hp1, hp2, HP⟩ := hrel
        by_cases hlt3 : p < 8 * m
        · have HB1 := hide (HBit.out p wr hlt3 HFr.out)
          by_cases hbt : bbit b p = true
          · rw [if_pos hbt] at HB1
            have HF := hide (show r = ([], 20) by
              rw [HRes.out, if_neg]
              intro h
              have := HLf.out.1 h p hp1 (by rw [HL.out]; exact hlt3)
              rw [this] at hbt
              cases hbt)
            clear hbt
            go_wp2_with (go_at_call 142; refine HB1.out.mono ?_; rintro en w' ⟨rfl, rfl⟩)
            go_ret2
            rw [HF.out]
            exact ⟨_, rfl, Own.nil _ _ _ _, HFr.out⟩
          · have hbf : bbit b p = false := by simpa using hbt
            rw [if_neg hbt] at HB1
            have HN := hide (fun i (h1 : T ≤ i) (h2 : i < p + 1) => (if h : i = p then by rw [h]; exact hbf else HP.out i h1 (by omega) : bbit b i = false))
            clear hbt hbf
            go_wp2_with (go_at_call 142; refine HB1.out.mono ?_; rintro en w' ⟨rfl, rfl⟩)
            go_round
            case rel => exact ⟨p + 1, by go_num, by omega, by omega, HN⟩
            case measure => simp [intOf]; omega
        · obtain rfl : p = 8 * m := by omega
          have HF := hide (show r = (unpacked wd j b, 0) by
            rw [HRes.out, if_pos]
            exact HLf.out.2 (fun i h1 h2 => HP.out i h1 (by rw [HL.out] at h2; exact h2)))
          go_wp2
          go_ret2
          rw [HF.out]
          refine ⟨_, rfl, ?_, HFr.out⟩
          have h := HOw.out
          rw [List.take_of_length_le (by rw [unpacked_len]; exact Nat.le_refl _)] at h
          rw [unpacked_len]
          exact h

/-- the document's Unbits at whatever numbers. -/
theorem refUnb_any (A : Option Addr) (m c B : Nat) (wi ni : Int) (b : List UInt8) (w : World) (hl : b.length = m) (hc1 : m ≤ c) (hc : c ≤ maxLen) (hB : B ≤ w.heap.size) (hr : Rd w B A (by8 b)) :
    Calls Tryz.prog 118 #[.slice A m c, .int .i64 wi, .int .i64 ni] w (GivesUnb (unbitsZ b wi ni) w) := by
  unfold unbitsZ
  by_cases h : wi < 0 ∨ 64 < wi ∨ ni < 0 ∨ 1048576 < ni
  · rw [if_pos h]
    exact (refUnb_arg A m c wi ni w h).mono fun e w' ⟨h1, h2⟩ => ⟨_, h1, Own.nil _ _ _ _, h2 ▸ Fr.refl _ _⟩
  · rw [if_neg h]
    obtain ⟨wd, rfl⟩ := Int.eq_ofNat_of_zero_le (a := wi) (by omega)
    obtain ⟨n, rfl⟩ := Int.eq_ofNat_of_zero_le (a := ni) (by omega)
    rw [Int.toNat_natCast, Int.toNat_natCast]
    by_cases h2 : m = psz wd n
    · have h3 := refUnb_in A m c B wd n b w hl h2 hc1 hc (by omega) (by omega) hB hr
      by_cases h4 : leftN b (wd * n) = 0
      · rw [if_pos h4] at h3
        rw [if_neg (by rw [hl]; exact fun h => h.elim (fun h => h h2) (fun h => h h4))]
        exact h3
      · rw [if_neg h4] at h3
        rw [if_pos (.inr h4)]
        exact h3
    · rw [if_pos (.inl (by rw [hl]; exact h2))]
      exact (refUnb_len A m c wd n w (by omega) (by omega) h2).mono fun e w' ⟨h1, h2⟩ => ⟨_, h1, Own.nil _ _ _ _, h2 ▸ Fr.refl _ _⟩
end Go.Proofs.YtnjcncidlhllmaaGreat
namespace Go.Proofs.YtnjcncidlhllmaaGreat
set_option linter.unusedVariables false
set_option linter.unusedSimpArgs false
open Go.RowKit

set_option maxRecDepth 100000 in
set_option maxHeartbeats 400000 in
theorem clone_any (A : Option Addr) (n c B : Nat) (bs : List UInt8) (w : World) (hl : bs.length = n) (hn : n ≤ c) (hc : c ≤ maxLen) (hb : n ≤ 140737488355328) (hB : B ≤ w.heap.size) (hr : Rd w B A (by8 bs)) :
    Calls Tryz.prog 77 #[.slice A n c] w (GivesB w bs) := by
  have HR := hide hr; clear hr
  have HL := hide hl; clear hl
  obtain ⟨i0, hi, hz, hsz, hby⟩ := info_parts Tryz.info5
  cases A with
  | none =>
    have he := fun W => Lib.run_eql_slice_nil (P := Tryz.prog) W 25 5 none n c 0 0 Tryz.underlying25
    go_enter Tryz.func77, Tryz.ntmps77
    go_wp2
    go_ret
    have h0 := HR.out.len0
    subst h0
    exact ⟨_, rfl, Own.nil _ _ _ _, Fr.refl _ _⟩
  | some ad =>
    have he := fun W => Lib.run_eql_slice_nil (P := Tryz.prog) W 25 5 (some ad) n c 0 0 Tryz.underlying25
    have HS := hide (Src.ofRd (P := Tryz.prog) (size := 1) (w.alloc (.cells #[] 5)) Tryz.underlying25 (some ad) n c (by8 bs) (by rw [by8_length, HL.out]; omega) (by omega) (HR.out.fr0 ((Fr.refl _ _).alloc _)) (by8_one _))
    go_enter Tryz.func77, Tryz.ntmps77
    have b1 : (0 + n) * 1 ≤ 140737488355328 := by omega
    have b2 : 0 + n ≤ maxLen := by unfold maxLen at *; omega
    have b3 : w.heap.size ≤ (w.alloc (.cells #[] 5)).heap.size := by simp
    go_wp2_with (at_builtin; (refine wpList_append_gen _ rfl (.tmp 5) (.tmp 6) 25 25 rfl w.heap.size 5 i0 (.int .u8 0) 1 1 Tryz.underlying25 hi hz hsz hby rfl _ 0 [] rfl (own_empty w 5) _ n (by8 bs) rfl HS.out b1 b2 b3 ?_); intro v' w' hown hfr hat)
    go_ret
    refine ⟨v', rfl, by simpa [HL.out] using hown, ?_⟩
    exact ((Fr.refl No w).alloc _).own hfr (fun g h => .inl (Nat.le_of_eq (Option.some.inj h)))

set_option maxRecDepth 100000 in
set_option maxHeartbeats 400000 in
theorem clip_any (A : Option Addr) (n c : Nat) (w : World) (hn : n ≤ c) (hc : c ≤ maxLen) :
    Calls Tryz.prog 74 #[.slice A n c] w (Ret (.slice A n n) w) := by
  unfold maxLen at hc
  go_enter Tryz.func74, Tryz.ntmps74
  go_wp2
  go_ret
  exact ⟨by simp, rfl⟩

end Go.Proofs.YtnjcncidlhllmaaGreat
namespace Go.Proofs.YtnjcncidlhllmaaGreat
set_option linter.unusedVariables false
set_option linter.unusedSimpArgs false
open Go.RowKit

/-- a reader: bytes, the place in them, the error. -/
def RD (w : World) (g : Nat) (bs : List UInt8) (at_ : Nat) (e : Int) : Prop :=
  ∃ A c, w.heap[g]? = some (.cells #[.slice A bs.length c, .int .i64 at_, .int .i64 e] 108 (0, 0)) ∧ bs.length ≤ c ∧ c ≤ maxLen ∧ at_ ≤ bs.length ∧ bs.length ≤ 140737488355328 ∧
    Own w 0 5 1 (.slice A bs.length c) bs.length (by8 bs)

theorem RD.parts {w : World} {g : Nat} {bs : List UInt8} {at_ : Nat} {e : Int} (h : RD w g bs at_ e) :
    ∃ A c, (w.cell? ⟨g, 0, none⟩ = some (.slice A bs.length c) ∧ w.cell? ⟨g, 1, none⟩ = some (.int .i64 at_) ∧ w.cell? ⟨g, 2, none⟩ = some (.int .i64 e)) ∧ (∀ i, w.frozen? ⟨g, i, none⟩ = false) ∧
      bs.length ≤ c ∧ c ≤ maxLen ∧ at_ ≤ bs.length ∧ bs.length ≤ 140737488355328 ∧ Rd w w.heap.size A (by8 bs) := by
  obtain ⟨A, c, hh, h1, h2, h3, h4, ho⟩ := h
  exact ⟨A, c, ⟨cell_of_row w g 0 _ _ (0, 0) hh, cell_of_row w g 1 _ _ (0, 0) hh, cell_of_row w g 2 _ _ (0, 0) hh⟩, fun i => by simp [World.frozen?, hh], h1, h2, h3, h4, ho.rd⟩

theorem RD.set1 {w : World} {g : Nat} {bs : List UInt8} {at_ : Nat} {e : Int} (h : RD w g bs at_ e) (k : Nat) (hk : k ≤ bs.length) : RD (w.setCell ⟨g, 1, none⟩ (.int .i64 k)) g bs k e := by
  obtain ⟨A, c, hh, h1, h2, h3, h4, ho⟩ := h
  refine ⟨A, c, by simp [World.setCell, Array.getElem?_modify, hh], h1, h2, hk, h4, ho.fr ((Fr.refl (Is g) w).setCell (p := ⟨g, 1, none⟩) (fun _ => rfl) _) ?_⟩
  rintro g' hg' rfl
  exact ho.ne_blk hg' hh (by decide)

theorem RD.set2 {w : World} {g : Nat} {bs : List UInt8} {at_ : Nat} {e : Int} (h : RD w g bs at_ e) (k : Int) : RD (w.setCell ⟨g, 2, none⟩ (.int .i64 k)) g bs at_ k := by
  obtain ⟨A, c, hh, h1, h2, h3, h4, ho⟩ := h
  refine ⟨A, c, by simp [World.setCell, Array.getElem?_modify, hh], h1, h2, h3, h4, ho.fr ((Fr.refl (Is g) w).setCell (p := ⟨g, 2, none⟩) (fun _ => rfl) _) ?_⟩
  rintro g' hg' rfl
  exact ho.ne_blk hg' hh (by decide)

theorem RD.drewN {w : World} {g : Nat} {bs : List UInt8} {at_ : Nat} {e : Int} (h : RD w g bs at_ e) (n : Nat) : RD (w.drewN n) g bs at_ e := h

theorem RD.fr0 {w w' : World} {g : Nat} {bs : List UInt8} {a : Nat} {e : Int} (h : RD w g bs a e) (f : Fr No w w') : RD w' g bs a e := by
  obtain ⟨A, c, hh, h1, h2, h3, h4, ho⟩ := h
  exact ⟨A, c, f.blk hh (fun h => h), h1, h2, h3, h4, ho.fr0 f⟩

theorem RD.lt {w : World} {g : Nat} {bs : List UInt8} {a : Nat} {e : Int} (h : RD w g bs a e) : g < w.heap.size := by
  obtain ⟨A, c, hh, _⟩ := h
  exact (Array.getElem?_eq_some_iff.1 hh).1

theorem RD.other {w w' : World} {g g2 : Nat} {bs bs2 : List UInt8} {a a2 : Nat} {e e2 : Int} (h : RD w g bs a e) (h2 : RD w g2 bs2 a2 e2) (f : Fr (Is g2) w w') (hne : g ≠ g2) : RD w' g bs a e := by
  obtain ⟨A, c, hh, h1, h2', h3, h4, ho⟩ := h
  obtain ⟨A2, c2, hh2, _⟩ := h2
  refine ⟨A, c, f.blk hh hne, h1, h2', h3, h4, ho.fr f ?_⟩
  rintro g' hg' rfl
  exact ho.ne_blk hg' hh2 (by decide)

theorem dec_le : ∀ (bs : List UInt8) (i acc u k : Nat), dec i acc bs = some (u, k) → i < k ∧ k ≤ i + bs.length
  | [], i, acc, u, k, h => by simp [dec] at h
  | b :: r, i, acc, u, k, h => by
    rw [dec] at h
    split at h
    · cases h
    · split at h
      · cases h
      · split at h
        · split at h
          · cases h
          · injection h with h; injection h with _ h; simp; omega
        · have := dec_le r _ _ u k h
          simp; omega

/-- what a reader's call leaves: value, place, error. -/
def RDRet (v : Value) (w : World) (g : Nat) (bs : List UInt8) (at_ : Nat) (e : Int) (en : Ending) (w' : World) : Prop := en = .returned v ∧ RD w' g bs at_ e ∧ Fr (Is g) w w'

/-- a new reader. -/
def GivesRD (w : World) (bs : List UInt8) (en : Ending) (w' : World) : Prop := ∃ g, en = .returned (.pointer (some ⟨g, 0, none⟩)) ∧ w.heap.size ≤ g ∧ RD w' g bs 0 0 ∧ Fr No w w'

set_option maxRecDepth 100000 in
set_option maxHeartbeats 400000 in
theorem newReader_any (A : Option Addr) (n c B : Nat) (bs : List UInt8) (w : World) (hl : bs.length = n) (hn : n ≤ c) (hc : c ≤ maxLen) (hb : n ≤ 140737488355328) (hB : B ≤ w.heap.size) (hr : Rd w B A (by8 bs)) :
    Calls Tryz.prog 48 #[.slice A n c] w (GivesRD w bs) := by
  have H := hide (clone_any A n c B bs w hl hn hc hb hB hr)
  have HL := hide hl
  clear hr hl
  go_enter Tryz.func48, Tryz.ntmps48
  go_wp2_with (go_at_call 77; refine H.out.mono ?_; rintro en w' ⟨v, rfl, hown, hfr⟩; obtain ⟨A', c', rfl, hq1, hq2, hq3, hq4⟩ := hown.form; have HO := hide hown; have HF := hide hfr; clear hown hfr hq3 hq4)
  go_ret
  refine ⟨w'.heap.size, rfl, HF.out.size, ⟨A', c', heap_alloc_new w' _, hq1, hq2, Nat.zero_le _, by rw [HL.out]; exact hb, ?_⟩, HF.out.alloc _⟩
  exact (HO.out.lower (Nat.zero_le _)).fr0 ((Fr.refl _ _).alloc _)

set_option maxRecDepth 100000 in
set_option maxHeartbeats 400000 in
theorem left_any (g : Nat) (bs : List UInt8) (a : Nat) (e : Int) (w : World) (h : RD w g bs a e) :
    Calls Tryz.prog 53 #[.pointer (some ⟨g, 0, none⟩)] w (RetQ (.int .i64 ((bs.length - a : Nat) : Int)) w) := by
  obtain ⟨A, c, ⟨c0, c1, c2⟩, hf, h1, h2, h3, h4, hr⟩ := h.parts
  have hx : ((bs.length - a : Nat) : Int) = (bs.length : Int) - a := by omega
  have HX := hide hx
  clear h hr hx
  generalize bs.length = n at *
  go_enter Tryz.func53, Tryz.ntmps53
  go_wp2
  go_quiet (fail)
  go_wp2
  go_ret
  exact ⟨by rw [HX.out]; rfl, _, rfl⟩

set_option maxRecDepth 100000 in
set_option maxHeartbeats 400000 in
theorem left_nil (w : World) : Calls Tryz.prog 53 #[.pointer none] w (Ret (.int .i64 0) w) := by
  go_enter Tryz.func53, Tryz.ntmps53
  go_wp2
  go_ret
  exact ⟨rfl, rfl⟩

set_option maxRecDepth 100000 in
set_option maxHeartbeats 400000 in
theorem err_any (g : Nat) (bs : List UInt8) (a : Nat) (e : Int) (w : World) (h : RD w g bs a e) :
    Calls Tryz.prog 50 #[.pointer (some ⟨g, 0, none⟩)] w (Ret (.int .i64 e) w) := by
  obtain ⟨A, c, ⟨c0, c1, c2⟩, hf, h1, h2, h3, h4, hr⟩ := h.parts
  clear h hr
  go_enter Tryz.func50, Tryz.ntmps50
  go_wp2
  go_ret
  exact ⟨rfl, rfl⟩

set_option maxRecDepth 100000 in
set_option maxHeartbeats 400000 in
theorem err_nil (w : World) : Calls Tryz.prog 50 #[.pointer none] w (Ret (.int .i64 20) w) := by
  go_enter Tryz.func50, Tryz.ntmps50
  go_wp2
  go_ret
  exact ⟨rfl, rfl⟩

def endE (bs : List UInt8) (a : Nat) (e : Int) : Int := if e = 0 ∧ a < bs.length then 20 else e

/-- where a reader's bytes lie: from M on. -/
def Up0 (w : World) (g M : Nat) : Prop := ∀ A n c, w.cell? ⟨g, 0, none⟩ = some (.slice A n c) → ∀ k, (Value.slice A n c).ownBlock = some k → M ≤ k

def GivesRU (w : World) (bs : List UInt8) (en : Ending) (w' : World) : Prop := ∃ g, en = .returned (.pointer (some ⟨g, 0, none⟩)) ∧ w.heap.size ≤ g ∧ RD w' g bs 0 0 ∧ Fr No w w' ∧ Up0 w' g w.heap.size

theorem RD.below {S : Nat → Prop} {w w' : World} {g M : Nat} {bs : List UInt8} {a : Nat} {e : Int} (h : RD w g bs a e) (h0 : Up0 w g M) (hg : M ≤ g) (f : Fr S w w') (hS : ∀ k, M ≤ k → ¬ S k) : RD w' g bs a e := by
  obtain ⟨A, c, hh, h1, h2', h3, h4, ho⟩ := h
  refine ⟨A, c, f.blk hh (hS g hg), h1, h2', h3, h4, ho.fr f ?_⟩
  intro k hk
  exact hS k (h0 A bs.length c (by rw [cell_of_row w g 0 _ _ (0, 0) hh]; rfl) k hk)

theorem Up0.fr0 {w w' : World} {g M : Nat} {bs : List UInt8} {a : Nat} {e : Int} (h : Up0 w g M) (r : RD w g bs a e) (f : Fr No w w') : Up0 w' g M := by
  intro A n c hc k hk
  obtain ⟨_, _, ⟨z, _⟩, _⟩ := r.parts
  have := f.cell (p := ⟨g, 0, none⟩) z (fun h => h)
  rw [this] at hc
  exact h A n c (by rw [z, hc]) k hk

set_option maxRecDepth 100000 in
set_option maxHeartbeats 400000 in
theorem newReader_up (A : Option Addr) (n c B : Nat) (bs : List UInt8) (w : World) (hl : bs.length = n) (hn : n ≤ c) (hc : c ≤ maxLen) (hb : n ≤ 140737488355328) (hB : B ≤ w.heap.size) (hr : Rd w B A (by8 bs)) :
    Calls Tryz.prog 48 #[.slice A n c] w (GivesRU w bs) := by
  have H := hide (clone_any A n c B bs w hl hn hc hb hB hr)
  have HL := hide hl
  clear hr hl
  go_enter Tryz.func48, Tryz.ntmps48
  go_wp2_with (go_at_call 77; refine H.out.mono ?_; rintro en w' ⟨v, rfl, hown, hfr⟩; obtain ⟨A', c', rfl, hq1, hq2, hq3, hq4⟩ := hown.form; have HO := hide hown; have HF := hide hfr; clear hown hfr hq3 hq4)
  go_ret
  refine ⟨w'.heap.size, rfl, HF.out.size, ⟨A', c', heap_alloc_new w' _, hq1, hq2, Nat.zero_le _, by rw [HL.out]; exact hb, ?_⟩, HF.out.alloc _, ?_⟩
  · exact (HO.out.lower (Nat.zero_le _)).fr0 ((Fr.refl _ _).alloc _)
  · intro A2 n2 c2 hc2 k hk
    rw [cell_of_row _ w'.heap.size 0 _ _ (0, 0) (heap_alloc_new w' _)] at hc2
    have : Value.slice A' bs.length c' = .slice A2 n2 c2 := by simpa using hc2
    rw [← this] at hk
    exact (HO.out.lt k hk).1

end Go.Proofs.YtnjcncidlhllmaaGreat
