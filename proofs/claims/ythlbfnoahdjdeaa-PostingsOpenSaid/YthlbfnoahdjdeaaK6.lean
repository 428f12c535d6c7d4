/- Several texts in one: RefU03, MinW, RefA, RefUint. -/
import Derived.Test.YthlbfnoahdjdeaaK5
namespace Go.Proofs.Ythlbfnoahdjdeaa
set_option linter.unusedVariables false
set_option linter.unusedSimpArgs false
open Go.RowKit

theorem shr_big (x k : Nat) (h : 2 ^ k ≤ x) : ((((x : Int) / 2 ^ k)) == 0) = false := by
  have := shr_ne x k
  rw [decide_eq_true h] at this
  simpa using this
theorem shr_small (x k : Nat) (h : x < 2 ^ k) : ((x : Int) / 2 ^ k) = 0 := by
  rw [int_shr, Nat.shiftRight_eq_div_pow, Nat.div_eq_of_lt h]
  rfl
theorem wid_mono (l : List Nat) (j : Nat) (hj : j < l.length) : wid (l.take (j + 1)) = max (wid (l.take j)) (Lib.bitLen (l.getD j 0)) := by rw [take_snocN hj, wid_snoc]

set_option maxRecDepth 100000 in
set_option maxHeartbeats 800000 in
theorem refWidth_any (A : Option Addr) (n c B : Nat) (l : List Nat) (w : World) (hl : l.length = n) (hi : In64 l) (hn : n ≤ c) (hc : c ≤ maxLen) (hr : Rd w B A (nz l)) :
    Calls Try.prog 92 #[.slice A n c] w (Ret (.int .i64 (wid l : Nat)) w) := by
  unfold maxLen at hc
  have HR := hide hr
  have HL := hide hl
  have HI := hide hi
  clear hr hl hi
  go_enter Try.func92, Try.ntmps92
  go_wp2
  go_loop [3, 4] (fun y i => ∃ k u : Nat, k ≤ n ∧ i = .int .i64 k ∧ y = .int .i64 (u : Nat) ∧ u ≤ 64 ∧ Hid (u = wid (l.take k))) (fun _ i => n - (intOf i).toNat)
  case atStart => exact ⟨0, 0, by omega, rfl, rfl, by omega, hide rfl⟩
  case round =>
    obtain ⟨k, u, hk, rfl, rfl, hu, HU⟩ := hrel
    by_cases hlt : k < n
    · have h1 : k < l.length := by rw [HL.out]; exact hlt
      obtain ⟨ad, rfl, _, hcell⟩ := HR.out.natAt h1
      have hx := HI.out.at k
      have HW := hide (wid_mono l k h1)
      have HW64 := hide (wid_take HI.out (k + 1))
      generalize l.getD k 0 = x at hcell hx HW
      rw [← HU.out] at HW
      have HB := hide (fun w => blen_le (x := x) w hx)
      generalize Lib.bitLen x = bl at HW HB
      clear h1
      go_wp2
      go_loop [3] (fun y => ∃ v : Nat, y = .int .i64 (v : Nat) ∧ v ≤ 64 ∧ Hid (u ≤ v) ∧ Hid (v ≤ wid (l.take (k + 1)))) (fun y => 64 - (intOf y).toNat)
      case atStart => exact ⟨u, rfl, hu, hide (Nat.le_refl _), hide (by rw [HW.out]; omega)⟩
      case round =>
        obtain ⟨v, rfl, hv, HV1, HV2⟩ := hrel
        by_cases hv64 : v < 64
        · by_cases hbig : 2 ^ v ≤ x
          · have hs := shr_big x v hbig
            have hs2 : ((((x : Int) / 2 ^ v)) != 0) = true := by rw [bne, hs]; rfl
            have HN : Hid (v + 1 ≤ wid (l.take (k + 1))) := hide (by
              rw [HW.out]
              have : ¬ bl ≤ v := fun h => by have := (HB.out v).1 h; omega
              omega)
            clear hbig hs
            go_wp2
            go_round
            case rel => exact ⟨v + 1, by go_num, by omega, hide (by have := HV1.out; omega), HN⟩
            case measure => simp [intOf]; omega
          · have hs := shr_small x v (by omega)
            have HN : Hid (v = wid (l.take (k + 1))) := hide (by
              have h1 := HV2.out
              have h2 := HV1.out
              have h3 : bl ≤ v := (HB.out v).2 (by omega)
              rw [HW.out] at h1 ⊢
              omega)
            clear hbig
            go_wp2
            go_round
            case rel => exact ⟨k + 1, v, by omega, by go_num, rfl, hv, HN⟩
            case measure => simp [intOf]; omega
        · obtain rfl : v = 64 := by omega
          have HN : Hid (64 = wid (l.take (k + 1))) := hide (by have := HV2.out; have := HW64.out; omega)
          go_wp2
          go_round
          case rel => exact ⟨k + 1, 64, by omega, by go_num, rfl, by omega, HN⟩
          case measure => simp [intOf]; omega
    · obtain rfl : k = n := by omega
      have HT := hide (show u = wid l by rw [HU.out, ← HL.out, List.take_length])
      go_wp2
      go_ret
      exact ⟨by rw [← HT.out]; rfl, rfl⟩

theorem bbit_val (b : UInt8) (s : Nat) : bits .and .u64 (IntKind.u64.wrap ((b.toNat : Int) / 2 ^ s)) 1 = (((if b.toNat.testBit s then 1 else 0 : Nat)) : Int) := by
  have hb := b.toNat_lt
  have hs : b.toNat >>> s < 18446744073709551616 := by
    rw [Nat.shiftRight_eq_div_pow]
    exact Nat.lt_of_le_of_lt (Nat.div_le_self _ _) (by omega)
  rw [int_shr]
  have e0 : IntKind.u64.wrap ((b.toNat >>> s : Nat) : Int) = ((b.toNat >>> s : Nat) : Int) := by
    generalize b.toNat >>> s = z at hs ⊢
    rw [IntKind.wrap_u64]
    omega
  rw [e0]
  have h := u64_and_nat (b.toNat >>> s) 1 hs (by omega)
  rw [show ((1 : Nat) : Int) = 1 from rfl] at h
  rw [h, Nat.and_one_is_mod]
  have ht : b.toNat.testBit s = decide ((b.toNat >>> s) % 2 = 1) := by
    rw [Nat.testBit_eq_decide_div_mod_eq, Nat.shiftRight_eq_div_pow]
  rw [ht]
  by_cases e : (b.toNat >>> s) % 2 = 1
  · rw [decide_eq_true e, if_pos rfl, e]
  · rw [decide_eq_false e, if_neg (by decide)]
    have : (b.toNat >>> s) % 2 = 0 := by omega
    rw [this]
set_option maxRecDepth 100000 in
set_option maxHeartbeats 400000 in
theorem bit_any (A : Option Addr) (m c B p : Nat) (b : List UInt8) (w : World) (hl : b.length = m) (hn : m ≤ c) (hc : c ≤ maxLen) (hm : m ≤ 140737488355328) (hp : p < 8 * m) (hr : Rd w B A (by8 b)) :
    Calls Try.prog 110 #[.slice A m c, .int .i64 (p : Nat)] w (Ret (.int .u64 ((if bbit b p then 1 else 0 : Nat) : Int)) w) := by
  unfold maxLen at hc
  have hq : p / 8 < m := by omega
  obtain ⟨ad, rfl, _, hcell⟩ := hr.byte (k := p / 8) (by rw [hl]; exact hq)
  have HV := hide (bbit_val (b.getD (p / 8) 0) (p % 8))
  have hy := (b.getD (p / 8) 0).toNat_lt
  obtain ⟨s8, hs8⟩ : ∃ s, s = p % 8 := ⟨_, rfl⟩
  obtain ⟨q8, hq8⟩ : ∃ s, s = p / 8 := ⟨_, rfl⟩
  have e1 : (p : Int) % 8 = (s8 : Int) := by omega
  have e2 : (p : Int) / 8 = (q8 : Int) := by omega
  unfold bbit
  rw [← hs8, ← hq8] at HV ⊢
  rw [← hq8] at hcell hq hy
  have h7 : s8 ≤ 7 := by omega
  have HVV := hide HV.out
  generalize hx : (b.getD q8 0).toNat = x at hcell hy HVV ⊢
  generalize (((if x.testBit s8 = true then 1 else 0 : Nat)) : Int) = r at HVV ⊢
  clear hr hl hs8 hq8 hx HV
  go_enter Try.func110, Try.ntmps110
  go_wp2
  go_ret
  exact ⟨by rw [← HVV.out]; rfl, rfl⟩

/-! Bits. -/
theorem nbit_val {x k : Nat} (hx : x < 18446744073709551616) : bits .and .u64 ((x : Int) / 2 ^ k) 1 = (((if x.testBit k then 1 else 0 : Nat)) : Int) := by
  have hs : x >>> k < 18446744073709551616 := by
    rw [Nat.shiftRight_eq_div_pow]
    exact Nat.lt_of_le_of_lt (Nat.div_le_self _ _) hx
  rw [int_shr]
  have h := u64_and_nat (x >>> k) 1 hs (by omega)
  rw [show ((1 : Nat) : Int) = 1 from rfl] at h
  rw [h, Nat.and_one_is_mod]
  have ht : x.testBit k = decide ((x >>> k) % 2 = 1) := by
    rw [Nat.testBit_eq_decide_div_mod_eq, Nat.shiftRight_eq_div_pow]
  rw [ht]
  by_cases e : (x >>> k) % 2 = 1
  · rw [decide_eq_true e, if_pos rfl, e]
  · rw [decide_eq_false e, if_neg (by decide)]
    have : (x >>> k) % 2 = 0 := by omega
    rw [this]
theorem one_val {s old : Nat} (hs : s ≤ 7) (ho : old < 256) : bits .or .u8 (old : Int) ((2 : Int) ^ s % 256) = ((old ||| 2 ^ s : Nat) : Int) := by
  have e : (2 : Int) ^ s % 256 = ((2 ^ s : Nat) : Int) := by
    have : s = 0 ∨ s = 1 ∨ s = 2 ∨ s = 3 ∨ s = 4 ∨ s = 5 ∨ s = 6 ∨ s = 7 := by omega
    rcases this with rfl | rfl | rfl | rfl | rfl | rfl | rfl | rfl <;> decide
  rw [e]
  exact u8_or_nat _ _ ho (by have : 2 ^ s ≤ 2 ^ 7 := p2 hs; omega)
/-- one bit more. -/
theorem bit_on {wd j q m t : Nat} {l : List Nat} (ht : t = wd * j + q) (hq : q < wd) (hb : (l.getD j 0).testBit q = true) :
    (by8 (pbys (pbit wd l) t m)).set (t / 8) (.int .u8 ((pby (pbit wd l) t (t / 8) ||| 2 ^ (t % 8) : Nat) : Int)) = by8 (pbys (pbit wd l) (t + 1) m) := by
  have e : part (l.getD j 0) q 1 (t % 8) = 2 ^ (t % 8) := by
    unfold part
    rw [show (2 : Nat) ^ 1 - 1 = 1 from rfl, Nat.and_one_is_mod, Nat.shiftLeft_eq]
    rw [Nat.testBit_eq_decide_div_mod_eq, ← Nat.shiftRight_eq_div_pow] at hb
    rw [of_decide_eq_true hb, Nat.one_mul]
  have h := bits_set (wd := wd) (j := j) (q := q) (d := 1) (m := m) (l := l) ht rfl rfl rfl rfl (by omega) (by omega)
  rwa [e] at h
theorem bit_off {wd j q m t : Nat} {l : List Nat} (ht : t = wd * j + q) (hq : q < wd) (hb : (l.getD j 0).testBit q = false) : pbys (pbit wd l) t m = pbys (pbit wd l) (t + 1) m := by
  have e : pbit wd l t = false := by rw [ht, pbit_at l hq, hb]
  unfold pbys
  apply List.map_congr_left
  intro i _
  congr 1
  unfold pby
  apply wN_congr
  intro r hr
  by_cases h : 8 * i + r = t
  · rw [h, e]; simp
  · by_cases h2 : 8 * i + r < t
    · rw [decide_eq_true h2, decide_eq_true (by omega)]
    · rw [decide_eq_false h2, decide_eq_false (by omega)]

set_option maxRecDepth 100000 in
set_option maxHeartbeats 400000 in
theorem refBits_out (A : Option Addr) (n c : Nat) (wi : Int) (w : World) (h : wi < 0 ∨ 64 < wi) :
    Calls Try.prog 94 #[.slice A n c, .int .i64 wi] w (Ret (.slice none 0 0) w) := by
  by_cases h1 : wi < 0
  · clear h
    go_enter Try.func94, Try.ntmps94
    go_wp2
    go_ret
    exact ⟨rfl, rfl⟩
  · have h2 : 64 < wi := by omega
    clear h
    go_enter Try.func94, Try.ntmps94
    go_wp2
    go_ret
    exact ⟨rfl, rfl⟩

theorem own_some {w : World} {base e n : Nat} {v : Value} {xs : List Value} (h : Own w base e 1 v n xs) (hn : 0 < n) : ∃ g c, v = .slice (some ⟨g, 0, none⟩) n c ∧ n ≤ c ∧ c ≤ maxLen ∧ base ≤ g ∧ g < w.heap.size := by
  obtain ⟨A, c, rfl, h1, h2, _⟩ := h.form
  obtain ⟨g, rfl, hb, hg, _⟩ := h.store hn
  exact ⟨g, c, rfl, h1, h2, hb, hg⟩
def mN (t : Nat) : Nat := (t + 7) / 8
set_option maxRecDepth 100000 in
set_option maxHeartbeats 4000000 in
theorem refBits_in (A : Option Addr) (n c B wd : Nat) (l : List Nat) (w : World) (hl : l.length = n) (hi : In64 l) (hn : n ≤ c) (hc : c ≤ maxLen) (hb : n ≤ 1048576) (hw : wd ≤ 64) (hB : B ≤ w.heap.size) (hr : Rd w B A (nz l)) :
    Calls Try.prog 94 #[.slice A n c, .int .i64 (wd : Nat)] w (GivesB w (packed wd l)) := by
  obtain ⟨i0, hi0, hz, hsz, hby⟩ := info_parts Try.info5
  unfold maxLen at hc
  have HR := hide hr
  have HL := hide hl
  have HI := hide hi
  have hwn : wd * n ≤ 64 * n := Nat.mul_le_mul_right _ hw
  clear hr hl hi
  go_enter Try.func94, Try.ntmps94
  go_wp2
  go_loopw [5, 6, 7, 8] (fun out at_ i k wr => ∃ j t m : Nat, j ≤ n ∧ i = .int .i64 j ∧ at_ = .int .i64 (t : Nat) ∧ Hid (t = wd * j) ∧ Hid (m = mN t) ∧ Hid (Own wr w.heap.size 5 1 out m (by8 (pbys (pbit wd l) t m))) ∧ Hid (Fr No w wr)) (fun _ _ i _ _ => n - (intOf i).toNat)
  case atStart => exact ⟨0, 0, 0, by omega, rfl, rfl, hide rfl, hide rfl, hide (Own.nil _ _ _ _), hide (Fr.refl _ _)⟩
  case round =>
    obtain ⟨j, T, m, hj, rfl, rfl, HT, HM, HOw, HFr⟩ := hrel
    by_cases hlt : j < n
    · have h1 : j < l.length := by rw [HL.out]; exact hlt
      obtain ⟨ad, rfl, _, hcell0⟩ := HR.out.natAt h1
      have hx := HI.out.at j
      have hT1 : wd * (j + 1) ≤ wd * n := Nat.mul_le_mul_left _ hlt
      have HT2 : Hid (wd * (j + 1) = T + wd) := hide (by rw [HT.out, Nat.mul_add, Nat.mul_one])
      have hTm : T + wd ≤ 67108864 := by have := HT2.out; omega
      have HCell := hide (fun W (f : Fr No w W) => f.cell hcell0 (fun h => h))
      obtain ⟨x, hxx⟩ : ∃ x, x = l.getD j 0 := ⟨_, rfl⟩
      rw [← hxx] at HCell hx
      have HX := hide hxx
      clear hT1 hxx h1 hcell0
      go_wp2
      go_loopw [5, 6, 8] (fun out at_ k wx => ∃ q t m : Nat, q ≤ wd ∧ Hid (t = T + q) ∧ k = .int .i64 (q : Nat) ∧ at_ = .int .i64 (t : Nat) ∧ Hid (m = mN t) ∧ Hid (Own wx w.heap.size 5 1 out m (by8 (pbys (pbit wd l) t m))) ∧ Hid (Fr No w wx)) (fun _ _ k _ => wd - (intOf k).toNat)
      case atStart => exact ⟨0, T, m, by omega, hide rfl, rfl, rfl, HM, HOw, HFr⟩
      case round =>
        clear HOw HFr HM
        obtain ⟨q, t, m, hq, HTT, rfl, rfl, HM, HOw, HFr⟩ := hrel
        by_cases hlt2 : q < wd
        · have htm : t ≤ 67108864 := by have := HTT.out; omega
          obtain ⟨s8, hs8⟩ : ∃ s, s = t % 8 := ⟨_, rfl⟩
          obtain ⟨q8, hq8⟩ : ∃ s, s = t / 8 := ⟨_, rfl⟩
          have e1 : (t : Int) % 8 = (s8 : Int) := by omega
          have e2 : (t : Int) / 8 = (q8 : Int) := by omega
          have hs88 : s8 ≤ 7 := by omega
          have hq88 : q8 ≤ 8388608 := by omega
          have HS8 := hide hs8
          have HQ8 := hide hq8
          have hmm : m = mN t := HM.out
          have hmu : mN t = if s8 = 0 then q8 else q8 + 1 := by unfold mN; split <;> omega
          have hM1 : mN (t + 1) = q8 + 1 := by unfold mN; omega
          have hnb := nbit_val (k := q) hx
          have hold8 := pby_lt (pbit wd l) t q8
          have HV := hide (one_val hs88 hold8)
          have HMo := hide (fun h => pbys_more (f := pbit wd l) (t := t) (m := m) h)
          clear hs8 hq8 hold8
          by_cases hbit : x.testBit q = true
          · rw [if_pos hbit] at hnb
            have HBit := hide hbit
            clear hbit
            by_cases h0 : s8 = 0
            · obtain rfl : q8 = m := by rw [hmm, hmu, if_pos h0]
              have HM1 : Hid (q8 + 1 = mN (t + 1)) := hide hM1.symm
              have HMo := hide (HMo.out (by have := HQ8.out; have := HS8.out; omega))
              have HV : Hid (bits .or .u8 ((pby (pbit wd l) t q8 : Nat) : Int) 1 = ((pby (pbit wd l) t q8 ||| 2 ^ s8 : Nat) : Int)) := hide (by have h := HV.out; rw [h0] at h ⊢; exact h)
              clear hmm hmu hM1
              have HS := hide (Src.one (P := Try.prog) wr (e := 5) Try.underlying25 (.int .u8 0) rfl)
              have HOw' := hide (HOw.out.fr0 ((Fr.refl No wr).alloc (.cells #[.int .u8 0] 5)))
              have b1 : (q8 + 1) * 1 ≤ 140737488355328 := by omega
              have b2 : q8 + 1 ≤ maxLen := by unfold maxLen; omega
              have b3 : w.heap.size ≤ (wr.alloc (.cells #[.int .u8 0] 5)).heap.size := by have := HFr.out.size; simp; omega
              go_wp2_with (at_builtin; refine wpList_append_gen _ rfl (.tmp 30) (.tmp 31) 25 25 rfl w.heap.size 5 i0 (.int .u8 0) 1 1 Try.underlying25 hi0 hz hsz hby rfl u5 q8 (by8 (pbys (pbit wd l) t q8)) rfl HOw'.out _ 1 [.int .u8 0] rfl HS.out b1 b2 b3 ?_; intro v1 w1 hown hfr hat; have HF1 : Hid (Fr No w w1) := hide ((HFr.out.alloc _).own hfr (fun g hg => .inl (HOw.out.lt g hg).1)); obtain ⟨g, c1, rfl, r1, r2, r3, r4⟩ := own_some hown (by omega); unfold maxLen at r2; have HOn : Hid (Own w1 w.heap.size 5 1 (.slice (some ⟨g, 0, none⟩) (q8 + 1) c1) (q8 + 1) (by8 (pbys (pbit wd l) t (q8 + 1)))) := hide (by rw [HMo.out, by8_append]; exact hown); have hcx := HCell.out _ HF1.out; clear hown hfr hat; obtain ⟨hs1, hs2, hs3⟩ := HOn.out.put (k := q8) (by omega); rw [pbys_cell (by omega)] at hs1; have HPut := hide hs3; clear hs3; obtain ⟨old, hold⟩ : ∃ o, o = pby (pbit wd l) t q8 := ⟨_, rfl⟩; rw [← hold] at hs1; have HOld := hide hold; clear hold)
              go_roundw
              case rel =>
                refine ⟨q + 1, t + 1, q8 + 1, by omega, hide (by rw [HTT.out]; omega), by go_num, by go_num, HM1, hide ?_, hide (Fr.setCell HF1.out (p := ⟨g, q8, none⟩) (fun hlt => by have : g < w.heap.size := hlt; omega) _)⟩
                have h := HPut.out (.int .u8 ((old ||| 2 ^ s8 : Nat) : Int))
                rw [HOld.out, HQ8.out, HS8.out, bit_on (HTT.out.trans (by rw [HT.out])) hlt2 (by rw [← HX.out]; exact HBit.out), ← HS8.out, ← HQ8.out, ← HOld.out] at h
                rw [HOld.out, HV.out, ← HOld.out]
                exact h
              case measure => simp [intOf]; omega
            · obtain rfl : m = q8 + 1 := by rw [hmm, hmu, if_neg h0]
              have HM1 : Hid (q8 + 1 = mN (t + 1)) := hide hM1.symm
              have h01 : 1 ≤ s8 := by omega
              clear hmm hmu hM1 HMo
              obtain ⟨g, c1, rfl, r1, r2, r3, r4⟩ := own_some HOw.out (by omega)
              unfold maxLen at r2
              have HOn := HOw
              have hcx := HCell.out _ HFr.out
              obtain ⟨hs1, hs2, hs3⟩ := HOn.out.put (k := q8) (by omega)
              rw [pbys_cell (by omega)] at hs1
              have HPut := hide hs3
              clear hs3
              obtain ⟨old, hold⟩ : ∃ o, o = pby (pbit wd l) t q8 := ⟨_, rfl⟩
              rw [← hold] at hs1
              have HOld := hide hold
              clear hold
              go_wp2
              go_roundw
              case rel =>
                refine ⟨q + 1, t + 1, q8 + 1, by omega, hide (by rw [HTT.out]; omega), by go_num, by go_num, HM1, hide ?_, hide (Fr.setCell HFr.out (p := ⟨g, q8, none⟩) (fun hlt => by have : g < w.heap.size := hlt; omega) _)⟩
                have h := HPut.out (.int .u8 ((old ||| 2 ^ s8 : Nat) : Int))
                rw [HOld.out, HQ8.out, HS8.out, bit_on (HTT.out.trans (by rw [HT.out])) hlt2 (by rw [← HX.out]; exact HBit.out), ← HS8.out, ← HQ8.out, ← HOld.out] at h
                rw [HOld.out, HV.out, ← HOld.out]
                exact h
              case measure => simp [intOf]; omega
          · have hbit : x.testBit q = false := by simpa using hbit
            rw [if_neg (by rw [hbit]; decide)] at hnb
            have HBit := hide hbit
            clear hbit
            by_cases h0 : s8 = 0
            · obtain rfl : q8 = m := by rw [hmm, hmu, if_pos h0]
              have HM1 : Hid (q8 + 1 = mN (t + 1)) := hide hM1.symm
              have HMo := hide (HMo.out (by have := HQ8.out; have := HS8.out; omega))
              clear hmm hmu hM1
              have HS := hide (Src.one (P := Try.prog) wr (e := 5) Try.underlying25 (.int .u8 0) rfl)
              have HOw' := hide (HOw.out.fr0 ((Fr.refl No wr).alloc (.cells #[.int .u8 0] 5)))
              have b1 : (q8 + 1) * 1 ≤ 140737488355328 := by omega
              have b2 : q8 + 1 ≤ maxLen := by unfold maxLen; omega
              have b3 : w.heap.size ≤ (wr.alloc (.cells #[.int .u8 0] 5)).heap.size := by have := HFr.out.size; simp; omega
              go_wp2_with (at_builtin; refine wpList_append_gen _ rfl (.tmp 30) (.tmp 31) 25 25 rfl w.heap.size 5 i0 (.int .u8 0) 1 1 Try.underlying25 hi0 hz hsz hby rfl u5 q8 (by8 (pbys (pbit wd l) t q8)) rfl HOw'.out _ 1 [.int .u8 0] rfl HS.out b1 b2 b3 ?_; intro v1 w1 hown hfr hat; have HF1 : Hid (Fr No w w1) := hide ((HFr.out.alloc _).own hfr (fun g hg => .inl (HOw.out.lt g hg).1)); obtain ⟨g, c1, rfl, r1, r2, r3, r4⟩ := own_some hown (by omega); unfold maxLen at r2; have HOn : Hid (Own w1 w.heap.size 5 1 (.slice (some ⟨g, 0, none⟩) (q8 + 1) c1) (q8 + 1) (by8 (pbys (pbit wd l) t (q8 + 1)))) := hide (by rw [HMo.out, by8_append]; exact hown); have hcx := HCell.out _ HF1.out; clear hown hfr hat)
              go_roundw
              case rel =>
                refine ⟨q + 1, t + 1, q8 + 1, by omega, hide (by rw [HTT.out]; omega), by go_num, by go_num, HM1, hide ?_, HF1⟩
                rw [← bit_off (HTT.out.trans (by rw [HT.out])) hlt2 (by rw [← HX.out]; exact HBit.out)]
                exact HOn.out
              case measure => simp [intOf]; omega
            · obtain rfl : m = q8 + 1 := by rw [hmm, hmu, if_neg h0]
              have HM1 : Hid (q8 + 1 = mN (t + 1)) := hide hM1.symm
              have h01 : 1 ≤ s8 := by omega
              clear hmm hmu hM1 HMo
              obtain ⟨g, c1, rfl, r1, r2, r3, r4⟩ := own_some HOw.out (by omega)
              unfold maxLen at r2
              have HOn := HOw
              have hcx := HCell.out _ HFr.out
              go_wp2
              go_roundw
              case rel =>
                refine ⟨q + 1, t + 1, q8 + 1, by omega, hide (by rw [HTT.out]; omega), by go_num, by go_num, HM1, hide ?_, HFr⟩
                rw [← bit_off (HTT.out.trans (by rw [HT.out])) hlt2 (by rw [← HX.out]; exact HBit.out)]
                exact HOn.out
              case measure => simp [intOf]; omega
        · obtain rfl : q = wd := by omega
          have HN : Hid (t = q * (j + 1)) := hide (by rw [HT2.out, HTT.out])
          go_wp2
          go_roundw
          case rel => exact ⟨j + 1, t, m, by omega, by go_num, rfl, HN, HM, HOw, HFr⟩
          case measure => simp [intOf]; omega
    · obtain rfl : j = n := by omega
      have hw8 := HOw.out.1
      go_wp2
      go_ret
      refine ⟨_, rfl, ?_, HFr.out⟩
      have h := HOw.out
      unfold packed
      rw [pbys_len, HL.out]
      rw [HM.out] at h
      rw [HT.out] at h
      exact h
theorem refBits_any (A : Option Addr) (n c B : Nat) (wi : Int) (l : List Nat) (w : World) (hl : l.length = n) (hi : In64 l) (hn : n ≤ c) (hc : c ≤ maxLen) (hb : n ≤ 1048576) (hB : B ≤ w.heap.size) (hr : Rd w B A (nz l)) :
    Calls Try.prog 94 #[.slice A n c, .int .i64 wi] w (GivesB w (bitsZ l wi)) := by
  unfold bitsZ
  by_cases h : wi < 0 ∨ 64 < wi
  · rw [if_neg (by omega)]
    exact (refBits_out A n c wi w h).mono fun e w' ⟨h1, h2⟩ => ⟨_, h1, Own.nil _ _ _ _, h2 ▸ Fr.refl _ _⟩
  · rw [if_pos (by omega)]
    obtain ⟨wd, rfl⟩ := Int.eq_ofNat_of_zero_le (a := wi) (by omega)
    rw [Int.toNat_natCast]
    exact refBits_in A n c B wd l w hl hi hn hc hb (by omega) hB hr
end Go.Proofs.Ythlbfnoahdjdeaa
namespace Go.Proofs.Ythlbfnoahdjdeaa
set_option linter.unusedVariables false
set_option linter.unusedSimpArgs false
open Go.RowKit

theorem part_one (y s q : Nat) : part y s 1 q = (if y.testBit s then 1 else 0) <<< q := by
  unfold part
  rw [show (2 : Nat) ^ 1 - 1 = 1 from rfl, Nat.and_one_is_mod]
  congr 1
  rw [Nat.testBit_eq_decide_div_mod_eq, ← Nat.shiftRight_eq_div_pow]
  by_cases e : (y >>> s) % 2 = 1
  · rw [decide_eq_true e, if_pos rfl, e]
  · rw [decide_eq_false e, if_neg (by decide)]
    omega
theorem ubit1 {wd j q t : Nat} {b : List UInt8} (hw : wd ≤ 64) (ht : t = wd * j + q) (hq : q < wd) :
    bits .or .u64 ((unum wd b t j : Nat) : Int) (IntKind.u64.wrap (((if bbit b t then 1 else 0 : Nat) : Int) * 2 ^ q)) = ((unum wd b (t + 1) j : Nat) : Int) := by
  have h := unpack_step (w := wd) (i := j) (k := q) (d := 1) b (by omega) (by omega)
  rw [← ht, part_one] at h
  rw [← h]
  have hb : ((b.getD (t / 8) 0).toNat).testBit (t % 8) = bbit b t := rfl
  rw [hb]
  have e : IntKind.u64.wrap (((if bbit b t then 1 else 0 : Nat) : Int) * 2 ^ q) = (((if bbit b t then 1 else 0) <<< q : Nat) : Int) := by
    have hp : 2 ^ q < 18446744073709551616 := Nat.pow_lt_pow_right (a := 2) (n := 64) (by omega) (by omega)
    rw [IntKind.wrap_u64, Nat.shiftLeft_eq]
    have e2 : ((2 : Int) ^ q) = ((2 ^ q : Nat) : Int) := by simp
    rw [e2]
    generalize 2 ^ q = p at hp
    split
    · simp; omega
    · simp
  rw [e]
  refine u64_or_nat _ _ (unum_lt64 hw b t j) ?_
  have hp : 2 ^ q < 18446744073709551616 := Nat.pow_lt_pow_right (a := 2) (n := 64) (by omega) (by omega)
  rw [Nat.shiftLeft_eq]
  split <;> omega
theorem unum_full {wd j n : Nat} {b : List UInt8} (hj : j < n) : unum wd b (wd * (j + 1)) j = unum wd b (wd * n) j := by
  have h : wd * (j + 1) ≤ wd * n := Nat.mul_le_mul_left _ hj
  unfold unum
  apply wN_congr
  intro q hq
  rw [Nat.mul_add, Nat.mul_one] at h ⊢
  rw [decide_eq_true (by omega), decide_eq_true (by omega)]
theorem unpacked_take {wd j n : Nat} {b : List UInt8} (hj : j < n) : nz ((unpacked wd n b).take j) ++ [.int .u64 ((unum wd b (wd * (j + 1)) j : Nat) : Int)] = nz ((unpacked wd n b).take (j + 1)) := by
  have hl : j < (unpacked wd n b).length := by rw [unpacked_len]; exact hj
  rw [take_snocN hl, nz_append, unum_full hj]
  congr 1
  have : (unpacked wd n b).getD j 0 = unum wd b (wd * n) j := by
    unfold unpacked
    rw [List.getD_eq_getElem?_getD, unums_at hj]
    rfl
  rw [this]
  rfl

set_option maxRecDepth 100000 in
set_option maxHeartbeats 400000 in
theorem refUnb_arg (A : Option Addr) (n c : Nat) (wi ni : Int) (w : World) (h : wi < 0 ∨ 64 < wi ∨ ni < 0 ∨ 1048576 < ni) :
    Calls Try.prog 101 #[.slice A n c, .int .i64 wi, .int .i64 ni] w (Ret (.tuple #[.slice none 0 0, .int .i64 1]) w) := by
  by_cases h1 : wi < 0
  · clear h
    go_enter Try.func101, Try.ntmps101
    go_wp2
    go_ret2
    exact ⟨rfl, rfl⟩
  · by_cases h2 : 64 < wi
    · clear h
      go_enter Try.func101, Try.ntmps101
      go_wp2
      go_ret2
      exact ⟨rfl, rfl⟩
    · by_cases h3 : ni < 0
      · clear h
        go_enter Try.func101, Try.ntmps101
        go_wp2
        go_ret2
        exact ⟨rfl, rfl⟩
      · have h4 : 1048576 < ni := by omega
        clear h
        go_enter Try.func101, Try.ntmps101
        go_wp2
        go_ret2
        exact ⟨rfl, rfl⟩

set_option maxRecDepth 100000 in
set_option maxHeartbeats 400000 in
theorem refUnb_len (A : Option Addr) (m c wd n : Nat) (w : World) (hw : wd ≤ 64) (hn : n ≤ 1048576) (h : m ≠ psz wd n) :
    Calls Try.prog 101 #[.slice A m c, .int .i64 (wd : Nat), .int .i64 (n : Nat)] w (Ret (.tuple #[.slice none 0 0, .int .i64 20]) w) := by
  have hwn : wd * n ≤ 64 * n := Nat.mul_le_mul_right _ hw
  have e : (wd : Int) * (n : Int) = ((wd * n : Nat) : Int) := by simp
  have e2 : (((wd * n : Nat) : Int) + 7) / 8 = ((psz wd n : Nat) : Int) := by unfold psz; omega
  have hb : ((m : Int) != ((psz wd n : Nat) : Int)) = true := by simp; omega
  generalize psz wd n = p at e2 hb
  generalize wd * n = q at e e2 hwn
  clear h
  go_enter Try.func101, Try.ntmps101
  go_wp2_with (rw [e])
  go_ret2
  exact ⟨rfl, rfl⟩

set_option maxRecDepth 100000 in
set_option maxHeartbeats 2000000 in
theorem refUnb_in (A : Option Addr) (m c B wd n : Nat) (b : List UInt8) (w : World) (hl : b.length = m) (hm : m = psz wd n) (hc1 : m ≤ c) (hc : c ≤ maxLen) (hn : n ≤ 1048576) (hw : wd ≤ 64) (hB : B ≤ w.heap.size) (hr : Rd w B A (by8 b)) :
    Calls Try.prog 101 #[.slice A m c, .int .i64 (wd : Nat), .int .i64 (n : Nat)] w (GivesUnb (if leftN b (wd * n) = 0 then (unpacked wd n b, 0) else ([], 20)) w) := by
  obtain ⟨r, hres⟩ : ∃ r, r = (if leftN b (wd * n) = 0 then (unpacked wd n b, 0) else ([], 20) : List Nat × Int) := ⟨_, rfl⟩
  rw [← hres]
  have HRes := hide hres
  have HLf := hide (leftN_iff (b := b) (t := wd * n) (by rw [hl, hm]; rfl))
  clear hres
  obtain ⟨i0, hi0, hz, hsz, hby⟩ := info_parts Try.infoKU64
  have HBit := hide (fun p W (hp : p < 8 * m) (f : Fr No w W) => bit_any A m c B p b W hl hc1 hc (by rw [hm]; unfold psz; have : wd * n ≤ 64 * n := Nat.mul_le_mul_right _ hw; omega) hp (hr.fr0 f))
  unfold maxLen at hc
  have hwn : wd * n ≤ 64 * n := Nat.mul_le_mul_right _ hw
  have hm8 : wd * n ≤ 8 * m := by rw [hm]; unfold psz; omega
  have hmb : m ≤ 8388608 := by rw [hm]; unfold psz; omega
  obtain ⟨tn, htn⟩ : ∃ t, t = wd * n := ⟨_, rfl⟩
  have e : (wd : Int) * (n : Int) = ((tn : Nat) : Int) := by rw [htn]; simp
  have e2 : (((tn : Nat) : Int) + 7) / 8 = ((m : Nat) : Int) := by rw [htn, hm]; unfold psz; omega
  have hb0 : ((m : Int) != (m : Int)) = false := by simp
  have HL := hide hl
  rw [← htn] at hwn hm8 HRes HLf
  have HTn := hide htn
  clear hr hl hm htn
  go_enter Try.func101, Try.ntmps101
  go_wp2_with (rw [e])
  rw [e2]
  clear e2 e
  go_loopw [8, 9, 10, 11, 12] (fun v at_ i u k wr => ∃ j t : Nat, j ≤ n ∧ i = .int .i64 j ∧ at_ = .int .i64 (t : Nat) ∧ Hid (t = wd * j) ∧ Hid (Own wr w.heap.size 72 1 v j (nz ((unpacked wd n b).take j))) ∧ Hid (Fr No w wr)) (fun _ _ i _ _ _ => n - (intOf i).toNat)
  case atStart => exact ⟨0, 0, by omega, rfl, rfl, hide rfl, hide (Own.nil _ _ _ _), hide (Fr.refl _ _)⟩
  case round =>
    obtain ⟨j, T, hj, rfl, rfl, HT, HOw, HFr⟩ := hrel
    by_cases hlt : j < n
    · have hT1 : wd * (j + 1) ≤ wd * n := Nat.mul_le_mul_left _ hlt
      have HT2 : Hid (wd * (j + 1) = T + wd) := hide (by rw [HT.out, Nat.mul_add, Nat.mul_one])
      have hTm : T + wd ≤ tn := by rw [HTn.out]; have := HT2.out; omega
      have HU0 := hide (unum_zero (w := wd) (b := b) (t := T) (j := j) (Nat.le_of_eq HT.out))
      clear hT1
      have hgw := HFr.out.size
      go_wp2
      go_loop [9, 11, 12] (fun at_ u k => ∃ q t y : Nat, q ≤ wd ∧ Hid (t = T + q) ∧ k = .int .i64 (q : Nat) ∧ at_ = .int .i64 (t : Nat) ∧ u = .int .u64 (y : Nat) ∧ Hid (y = unum wd b t j)) (fun _ _ k => wd - (intOf k).toNat)
      case atStart => exact ⟨0, T, 0, by omega, hide rfl, rfl, rfl, rfl, hide HU0.out.symm⟩
      case round =>
        obtain ⟨q, t, y, hq, HTT, rfl, rfl, rfl, HY⟩ := hrel
        by_cases hlt2 : q < wd
        · have htm : t < 8 * m := by have := HTT.out; omega
          have HV := hide (ubit1 (b := b) hw (HTT.out.trans (by rw [HT.out])) hlt2)
          rw [← HY.out] at HV
          have HB1 := hide (HBit.out t wr htm HFr.out)
          generalize (((if bbit b t then 1 else 0 : Nat)) : Int) = rb at HB1 HV
          go_wp2_with (go_at_call 110; refine HB1.out.mono ?_; rintro en w' ⟨rfl, rfl⟩)
          go_round
          case rel => exact ⟨q + 1, t + 1, _, by omega, hide (by rw [HTT.out]; omega), by go_num, by go_num, by rw [HV.out], hide rfl⟩
          case measure => simp [intOf]; omega
        · obtain rfl : q = wd := by omega
          have HN : Hid (t = q * (j + 1)) := hide (by rw [HT2.out, HTT.out])
          have HS := hide (Src.one (P := Try.prog) wr (e := 72) Try.underlying129 (.int .u64 (y : Nat)) rfl)
          have HOw' := hide (HOw.out.fr0 ((Fr.refl No wr).alloc (.cells #[.int .u64 (y : Nat)] 72)))
          have HNx := hide (unpacked_take (wd := q) (b := b) hlt)
          rw [← HN.out, ← HY.out] at HNx
          have b1 : (j + 1) * 8 ≤ 140737488355328 := by omega
          have b2 : j + 1 ≤ maxLen := by unfold maxLen; omega
          have b3 : w.heap.size ≤ (wr.alloc (.cells #[.int .u64 (y : Nat)] 72)).heap.size := by simp; omega
          go_wp2_with (at_builtin; refine wpList_append_gen _ rfl (.tmp 55) (.tmp 57) 129 129 rfl w.heap.size 72 i0 (.int .u64 0) 1 8 Try.underlying129 hi0 hz hsz hby rfl u8 j (nz ((unpacked q n b).take j)) rfl HOw'.out _ 1 [.int .u64 (y : Nat)] rfl HS.out b1 b2 b3 ?_; intro v1 w1 hown hfr hat; have HF1 : Hid (Fr No w w1) := hide ((HFr.out.alloc _).own hfr (fun g hg => .inl (HOw.out.lt g hg).1)); have HOn : Hid (Own w1 w.heap.size 72 1 v1 (j + 1) (nz ((unpacked q n b).take (j + 1)))) := hide (by rw [← HNx.out]; exact hown); clear hown hfr hat)
          go_roundw
          case rel => exact ⟨j + 1, t, by omega, by go_num, rfl, HN, HOn, HF1⟩
          case measure => simp [intOf]; omega
    · obtain rfl : j = n := by omega
      obtain rfl : T = tn := by rw [HTn.out, HT.out]
      go_wp2
      go_loop [9] (fun at_ => ∃ p : Nat, at_ = .int .i64 (p : Nat) ∧ T ≤ p ∧ p ≤ 8 * m ∧ Hid (∀ i, T ≤ i → i < p → bbit b i = false)) (fun at_ => 8 * m - (intOf at_).toNat)
      case atStart => exact ⟨T, rfl, Nat.le_refl _, hm8, hide (fun i h1 h2 => by omega)⟩
      case round =>
        obtain ⟨p, rfl, hp1, hp2, HP⟩ := hrel
        by_cases hlt3 : p < 8 * m
        · have HB1 := hide (HBit.out p wr hlt3 HFr.out)
          by_cases hbt : bbit b p = true
          · rw [if_pos hbt] at HB1
            have HF := hide (show r = ([], 20) by
              rw [HRes.out, if_neg]
              intro h
              have := HLf.out.1 h p hp1 (by rw [HL.out]; exact hlt3)
              rw [this] at hbt
              cases hbt)
            clear hbt
            go_wp2_with (go_at_call 110; refine HB1.out.mono ?_; rintro en w' ⟨rfl, rfl⟩)
            go_ret2
            rw [HF.out]
            exact ⟨_, rfl, Own.nil _ _ _ _, HFr.out⟩
          · have hbf : bbit b p = false := by simpa using hbt
            rw [if_neg hbt] at HB1
            have HN := hide (fun i (h1 : T ≤ i) (h2 : i < p + 1) => (if h : i = p then by rw [h]; exact hbf else HP.out i h1 (by omega) : bbit b i = false))
            clear hbt hbf
            go_wp2_with (go_at_call 110; refine HB1.out.mono ?_; rintro en w' ⟨rfl, rfl⟩)
            go_round
            case rel => exact ⟨p + 1, by go_num, by omega, by omega, HN⟩
            case measure => simp [intOf]; omega
        · obtain rfl : p = 8 * m := by omega
          have HF := hide (show r = (unpacked wd j b, 0) by
            rw [HRes.out, if_pos]
            exact HLf.out.2 (fun i h1 h2 => HP.out i h1 (by rw [HL.out] at h2; exact h2)))
          go_wp2
          go_ret2
          rw [HF.out]
          refine ⟨_, rfl, ?_, HFr.out⟩
          have h := HOw.out
          rw [List.take_of_length_le (by rw [unpacked_len]; exact Nat.le_refl _)] at h
          rw [unpacked_len]
          exact h

/-- the document's Unbits at whatever numbers. -/
theorem refUnb_any (A : Option Addr) (m c B : Nat) (wi ni : Int) (b : List UInt8) (w : World) (hl : b.length = m) (hc1 : m ≤ c) (hc : c ≤ maxLen) (hB : B ≤ w.heap.size) (hr : Rd w B A (by8 b)) :
    Calls Try.prog 101 #[.slice A m c, .int .i64 wi, .int .i64 ni] w (GivesUnb (unbitsZ b wi ni) w) := by
  unfold unbitsZ
  by_cases h : wi < 0 ∨ 64 < wi ∨ ni < 0 ∨ 1048576 < ni
  · rw [if_pos h]
    exact (refUnb_arg A m c wi ni w h).mono fun e w' ⟨h1, h2⟩ => ⟨_, h1, Own.nil _ _ _ _, h2 ▸ Fr.refl _ _⟩
  · rw [if_neg h]
    obtain ⟨wd, rfl⟩ := Int.eq_ofNat_of_zero_le (a := wi) (by omega)
    obtain ⟨n, rfl⟩ := Int.eq_ofNat_of_zero_le (a := ni) (by omega)
    rw [Int.toNat_natCast, Int.toNat_natCast]
    by_cases h2 : m = psz wd n
    · have h3 := refUnb_in A m c B wd n b w hl h2 hc1 hc (by omega) (by omega) hB hr
      by_cases h4 : leftN b (wd * n) = 0
      · rw [if_pos h4] at h3
        rw [if_neg (by rw [hl]; exact fun h => h.elim (fun h => h h2) (fun h => h h4))]
        exact h3
      · rw [if_neg h4] at h3
        rw [if_pos (.inr h4)]
        exact h3
    · rw [if_pos (.inl (by rw [hl]; exact h2))]
      exact (refUnb_len A m c wd n w (by omega) (by omega) h2).mono fun e w' ⟨h1, h2⟩ => ⟨_, h1, Own.nil _ _ _ _, h2 ▸ Fr.refl _ _⟩
end Go.Proofs.Ythlbfnoahdjdeaa
namespace Go.Proofs.Ythlbfnoahdjdeaa
set_option linter.unusedVariables false
set_option linter.unusedSimpArgs false
open Go.RowKit

theorem min_take {l : List Int} {k : Nat} (hk : 1 ≤ k) (h : k < l.length) : minL (l.take (k + 1)) = min (minL (l.take k)) (l.getD k 0) := by
  rw [take_snoc_int h, minL_snoc]
  intro e
  have := congrArg List.length e
  rw [List.length_take, List.length_nil] at this
  omega
theorem minN_0 {l : List Nat} (h : l ≠ []) : minL (zN l) = 0 ↔ 0 ∈ l := by
  have hne : zN l ≠ [] := by simpa [zN] using h
  have hpos : ∀ x ∈ zN l, 0 ≤ x := by
    intro x hx
    obtain ⟨u, _, rfl⟩ := List.mem_map.1 hx
    omega
  constructor
  · intro e
    have := minL_mem hne
    rw [e] at this
    obtain ⟨u, hu, e2⟩ := List.mem_map.1 this
    have : u = 0 := by omega
    rwa [this] at hu
  · intro hm
    have h1 := minL_le (l := zN l) 0 (List.mem_map.2 ⟨0, hm, rfl⟩)
    have h2 := hpos _ (minL_mem hne)
    omega

set_option maxRecDepth 100000 in
set_option maxHeartbeats 400000 in
theorem minI_any (A : Option Addr) (n c B : Nat) (l : List Int) (w : World) (hl : l.length = n) (h0 : 0 < n) (hn : n ≤ c) (hc : c ≤ maxLen) (hr : Rd w B A (iz .i64 l)) :
    Calls Try.prog 88 #[.slice A n c] w (Ret (.int .i64 (minL l)) w) := by
  unfold maxLen at hc
  obtain ⟨ad, rfl, _, hcell0⟩ := hr.intAt (j := 0) (by omega)
  have HR := hide hr
  have HL := hide hl
  have HM := hide (fun (k : Nat) (hk : 1 ≤ k) (h : k < l.length) => min_take hk h)
  obtain ⟨x0, hx0⟩ : ∃ x, x = l.getD 0 0 := ⟨_, rfl⟩
  have HX0 : Hid (x0 = minL (l.take 1)) := hide (by
    rw [hx0]
    cases l with
    | nil => simp at hl; omega
    | cons y r => rfl)
  rw [← hx0] at hcell0
  rw [show ad.add 0 = ad by simp [Addr.add]] at hcell0
  clear hr hl hx0
  go_enter Try.func88, Try.ntmps88
  go_wp2
  go_loop [3, 4] (fun m i => ∃ (k : Nat) (y : Int), 1 ≤ k ∧ k ≤ n ∧ i = .int .i64 k ∧ m = .int .i64 y ∧ Hid (y = minL (l.take k))) (fun _ i => n - (intOf i).toNat)
  case atStart => exact ⟨1, x0, by omega, by omega, rfl, rfl, HX0⟩
  case round =>
    obtain ⟨k, y, hk1, hk, rfl, rfl, HY⟩ := hrel
    by_cases hlt : k < n
    · have h1 : k < l.length := by rw [HL.out]; exact hlt
      obtain ⟨ad2, e2, _, hcell⟩ := HR.out.intAt h1
      injection e2 with e2
      subst e2
      have HS := hide (HM.out k hk1 h1)
      rw [← HY.out] at HS
      generalize l.getD k 0 = x at hcell HS
      clear h1
      by_cases hyx : y ≤ x
      · have HE : Hid (y = minL (l.take (k + 1))) := hide (by rw [HS.out]; omega)
        go_wp2
        go_round
        case rel => exact ⟨k + 1, y, by omega, by omega, by go_num, rfl, HE⟩
        case measure => simp [intOf]; omega
      · have HE : Hid (x = minL (l.take (k + 1))) := hide (by rw [HS.out]; omega)
        have hyx2 : x < y := by omega
        clear hyx
        go_wp2
        go_round
        case rel => exact ⟨k + 1, x, by omega, by omega, by go_num, rfl, HE⟩
        case measure => simp [intOf]; omega
    · obtain rfl : k = n := by omega
      have HE : Hid (y = minL l) := hide (by rw [HY.out, ← HL.out, List.take_length])
      go_wp2
      go_ret
      exact ⟨by rw [← HE.out]; rfl, rfl⟩

set_option maxRecDepth 100000 in
set_option maxHeartbeats 400000 in
theorem minU_any (A : Option Addr) (n c B : Nat) (l : List Int) (w : World) (hl : l.length = n) (h0 : 0 < n) (hn : n ≤ c) (hc : c ≤ maxLen) (hr : Rd w B A (iz .u64 l)) :
    Calls Try.prog 98 #[.slice A n c] w (Ret (.int .u64 (minL l)) w) := by
  unfold maxLen at hc
  obtain ⟨ad, rfl, _, hcell0⟩ := hr.intAt (j := 0) (by omega)
  have HR := hide hr
  have HL := hide hl
  have HM := hide (fun (k : Nat) (hk : 1 ≤ k) (h : k < l.length) => min_take hk h)
  obtain ⟨x0, hx0⟩ : ∃ x, x = l.getD 0 0 := ⟨_, rfl⟩
  have HX0 : Hid (x0 = minL (l.take 1)) := hide (by
    rw [hx0]
    cases l with
    | nil => simp at hl; omega
    | cons y r => rfl)
  rw [← hx0] at hcell0
  rw [show ad.add 0 = ad by simp [Addr.add]] at hcell0
  clear hr hl hx0
  go_enter Try.func98, Try.ntmps98
  go_wp2
  go_loop [3, 4] (fun m i => ∃ (k : Nat) (y : Int), 1 ≤ k ∧ k ≤ n ∧ i = .int .i64 k ∧ m = .int .u64 y ∧ Hid (y = minL (l.take k))) (fun _ i => n - (intOf i).toNat)
  case atStart => exact ⟨1, x0, by omega, by omega, rfl, rfl, HX0⟩
  case round =>
    obtain ⟨k, y, hk1, hk, rfl, rfl, HY⟩ := hrel
    by_cases hlt : k < n
    · have h1 : k < l.length := by rw [HL.out]; exact hlt
      obtain ⟨ad2, e2, _, hcell⟩ := HR.out.intAt h1
      injection e2 with e2
      subst e2
      have HS := hide (HM.out k hk1 h1)
      rw [← HY.out] at HS
      generalize l.getD k 0 = x at hcell HS
      clear h1
      by_cases hyx : y ≤ x
      · have HE : Hid (y = minL (l.take (k + 1))) := hide (by rw [HS.out]; omega)
        go_wp2
        go_round
        case rel => exact ⟨k + 1, y, by omega, by omega, by go_num, rfl, HE⟩
        case measure => simp [intOf]; omega
      · have HE : Hid (x = minL (l.take (k + 1))) := hide (by rw [HS.out]; omega)
        have hyx2 : x < y := by omega
        clear hyx
        go_wp2
        go_round
        case rel => exact ⟨k + 1, x, by omega, by omega, by go_num, rfl, HE⟩
        case measure => simp [intOf]; omega
    · obtain rfl : k = n := by omega
      have HE : Hid (y = minL l) := hide (by rw [HY.out, ← HL.out, List.take_length])
      go_wp2
      go_ret
      exact ⟨by rw [← HE.out]; rfl, rfl⟩

set_option maxRecDepth 100000 in
set_option maxHeartbeats 400000 in
theorem clipI_any (A : Option Addr) (n c : Nat) (w : World) (hn : n ≤ c) (hc : c ≤ maxLen) :
    Calls Try.prog 99 #[.slice A n c] w (Ret (.slice A n n) w) := by
  unfold maxLen at hc
  go_enter Try.func99, Try.ntmps99
  go_wp2
  go_ret
  exact ⟨by simp, rfl⟩

/-- a number above another one. -/
theorem above_val {x le : Int} (h1 : -9223372036854775808 ≤ x ∧ x ≤ 9223372036854775807) (h2 : -9223372036854775808 ≤ le ∧ le ≤ 9223372036854775807) (h : le ≤ x) :
    IntKind.u64.wrap (IntKind.u64.wrap x - IntKind.u64.wrap le) = (((x - le).toNat : Nat) : Int) := by
  rw [IntKind.wrap_u64, IntKind.wrap_u64, IntKind.wrap_u64]
  omega
end Go.Proofs.Ythlbfnoahdjdeaa
namespace Go.Proofs.Ythlbfnoahdjdeaa
set_option linter.unusedVariables false
set_option linter.unusedSimpArgs false
open Go.RowKit

theorem encF_at : ∀ (f u i : Nat) (h : i < (encF f u).length), u < 2 ^ (7 * (f + 1)) → ((encF f u)[i]).toNat = u / 2 ^ (7 * i) % 128 + (if i + 1 < (encF f u).length then 128 else 0)
  | 0, u, i, h, hu => by
    have hi : i = 0 := by simp [encF] at h; exact h
    subst hi
    have hu' : u < 128 := by simpa using hu
    have e : (if 0 + 1 < (encF 0 u).length then 128 else 0) = 0 := if_neg (by simp [encF])
    rw [e]
    simp only [encF, List.getElem_cons_zero]
    rw [ofNat_toNat (by omega)]
    simp; omega
  | f + 1, u, i, h, hu => by
    by_cases hb : 127 < u
    · have e0 : encF (f + 1) u = UInt8.ofNat (u % 128 + 128) :: encF f (u / 128) := by rw [encF, if_pos hb]
      have hl := (encF_len f (u / 128)).1
      cases i with
      | zero =>
        simp only [e0, List.getElem_cons_zero, List.length_cons]
        rw [ofNat_toNat (by omega), if_pos (by omega)]
        simp
      | succ j =>
        have hj : j < (encF f (u / 128)).length := by rw [e0] at h; simpa using h
        have hu' : u / 128 < 2 ^ (7 * (f + 1)) := by rw [pow7] at hu; omega
        have ih := encF_at f (u / 128) j hj hu'
        simp only [e0, List.getElem_cons_succ, List.length_cons]
        rw [ih, Nat.div_div_eq_div_mul, pow7]
        congr 1
        by_cases hc : j + 1 < (encF f (u / 128)).length
        · rw [if_pos hc, if_pos (by omega)]
        · rw [if_neg hc, if_neg (by omega)]
    · have e0 : encF (f + 1) u = [UInt8.ofNat u] := by rw [encF, if_neg hb]
      have hi : i = 0 := by rw [e0] at h; simpa using h
      subst hi
      simp only [e0, List.getElem_cons_zero, List.length_cons, List.length_nil]
      rw [ofNat_toNat (by omega), if_neg (by omega)]
      simp; omega

theorem encF_more : ∀ (f u i : Nat), 1 ≤ i → i ≤ (encF f u).length → (i < (encF f u).length ↔ (i < f + 1 ∧ 0 < u / 2 ^ (7 * i)))
  | 0, u, i, h1, h2 => by
    have e : (encF 0 u).length = 1 := by simp [encF]
    rw [e] at h2 ⊢
    omega
  | f + 1, u, i, h1, h2 => by
    obtain ⟨j, rfl⟩ : ∃ j, i = j + 1 := ⟨i - 1, by omega⟩
    by_cases hb : 127 < u
    · have e0 : encF (f + 1) u = UInt8.ofNat (u % 128 + 128) :: encF f (u / 128) := by rw [encF, if_pos hb]
      have hl := (encF_len f (u / 128)).1
      rw [e0, List.length_cons] at h2 ⊢
      cases j with
      | zero =>
        have : 0 < u / 2 ^ (7 * (0 + 1)) := by simp; omega
        constructor
        · intro _; exact ⟨by omega, this⟩
        · intro _; omega
      | succ j =>
        have ih := encF_more f (u / 128) (j + 1) (by omega) (by omega)
        rw [Nat.div_div_eq_div_mul, ← pow7] at ih
        constructor
        · intro h; have := ih.1 (by omega); exact ⟨by omega, this.2⟩
        · intro h; have := ih.2 ⟨by omega, h.2⟩; omega
    · have e0 : encF (f + 1) u = [UInt8.ofNat u] := by rw [encF, if_neg hb]
      rw [e0, List.length_cons, List.length_nil] at h2 ⊢
      have : j = 0 := by omega
      subst this
      have : u / 2 ^ (7 * (0 + 1)) = 0 := by simp; omega
      rw [this]
      omega

theorem u64_pow {u : Nat} (h : u < 18446744073709551616) : u < 2 ^ (7 * (9 + 1)) := by
  have e : (2 : Nat) ^ (7 * (9 + 1)) = 1180591620717411303424 := by decide
  rw [e]; omega
theorem enc_at {u i : Nat} (hu : u < 18446744073709551616) (h : i < (enc u).length) : ((enc u).getD i 0).toNat = u / 2 ^ (7 * i) % 128 + (if i + 1 < (enc u).length then 128 else 0) := by
  have := encF_at 9 u i h (u64_pow hu)
  simp only [List.getD_eq_getElem?_getD, List.getElem?_eq_getElem h, Option.getD_some]
  exact this
theorem enc_more {u i : Nat} (h1 : 1 ≤ i) (h2 : i ≤ (enc u).length) : (i < (enc u).length ↔ (i < 10 ∧ 0 < u / 2 ^ (7 * i))) := encF_more 9 u i h1 h2
theorem enc_len (u : Nat) : 1 ≤ (enc u).length ∧ (enc u).length ≤ 10 := encF_len 9 u

/-- how many bytes above 127 stand ahead. -/
def lead : List UInt8 → Nat
  | [] => 0
  | b :: r => if 127 < b.toNat then lead r + 1 else 0
/-- the value of groups. -/
def gval : List UInt8 → Nat
  | [] => 0
  | b :: r => b.toNat % 128 + 128 * gval r

theorem lead_encF : ∀ (f u : Nat) (rest : List UInt8), u < 2 ^ (7 * (f + 1)) → lead (encF f u ++ rest) + 1 = (encF f u).length
  | 0, u, rest, hu => by
    have hu' : u < 128 := by simpa using hu
    simp only [encF, List.cons_append, List.nil_append, lead]
    rw [ofNat_toNat (by omega), if_neg (by omega)]
    rfl
  | f + 1, u, rest, hu => by
    by_cases hb : 127 < u
    · rw [encF, if_pos hb, List.cons_append, lead, ofNat_toNat (by omega), if_pos (by omega), List.length_cons, lead_encF f (u / 128) rest (by rw [pow7] at hu; omega)]
    · rw [encF, if_neg hb, List.cons_append, lead, ofNat_toNat (by omega), if_neg (by omega)]
      rfl
theorem gval_encF : ∀ (f u : Nat), u < 2 ^ (7 * (f + 1)) → gval (encF f u) = u
  | 0, u, hu => by
    have hu' : u < 128 := by simpa using hu
    simp only [encF, gval]
    rw [ofNat_toNat (by omega)]
    omega
  | f + 1, u, hu => by
    by_cases hb : 127 < u
    · rw [encF, if_pos hb, gval, ofNat_toNat (by omega), gval_encF f (u / 128) (by rw [pow7] at hu; omega)]
      omega
    · rw [encF, if_neg hb, gval, ofNat_toNat (by omega)]
      simp only [gval]
      omega

theorem dec_parts {bs : List UInt8} {u k : Nat} (h : dec 0 0 bs = some (u, k)) : lead bs + 1 = k ∧ gval (bs.take k) = u ∧ u < 18446744073709551616 ∧ k ≤ 10 ∧ k ≤ bs.length ∧ enc u = bs.take k := by
  have hu := dec_lt _ 0 0 u k (by decide) h
  have he := enc_dec h
  have hl := enc_len u
  have hb : bs = enc u ++ bs.drop k := by rw [he, List.take_append_drop]
  have hk : (enc u).length = k ∧ k ≤ bs.length := by
    have h2 := dec_enc u hu (bs.drop k)
    rw [← hb, h] at h2
    injection h2 with h2
    injection h2 with _ h2
    refine ⟨h2.symm, ?_⟩
    have : (bs.take k).length = k := by rw [← he]; exact h2.symm
    rw [List.length_take] at this
    omega
  refine ⟨?_, ?_, hu, by omega, hk.2, he⟩
  · have := lead_encF 9 u (bs.drop k) (u64_pow hu)
    rw [hb]
    rw [← hk.1]
    rw [hk.1]
    exact this.trans hk.1
  · rw [← he]; exact gval_encF 9 u (u64_pow hu)

theorem ref_none1 {bs : List UInt8} (h : bs.length ≤ lead bs ∨ 9 < lead bs) : dec 0 0 bs = none := by
  cases hd : dec 0 0 bs with
  | none => rfl
  | some x =>
    obtain ⟨h1, _, _, h4, h5, _⟩ := dec_parts (u := x.1) (k := x.2) hd
    omega
theorem ref_none2 {bs : List UInt8} (h : enc (gval (bs.take (lead bs + 1)) % 18446744073709551616) ≠ bs.take (lead bs + 1)) : dec 0 0 bs = none := by
  cases hd : dec 0 0 bs with
  | none => rfl
  | some x =>
    obtain ⟨h1, h2, h3, h4, h5, h6⟩ := dec_parts (u := x.1) (k := x.2) hd
    rw [h1, h2, Nat.mod_eq_of_lt h3] at h
    exact absurd h6 h
theorem ref_some {bs : List UInt8} {u k : Nat} (hu : u < 18446744073709551616) (hk : k ≤ bs.length) (h : enc u = bs.take k) : dec 0 0 bs = some (u, k) := by
  have h2 := dec_enc u hu (bs.drop k)
  rw [h, List.take_append_drop] at h2
  rw [h2]
  congr 2
  rw [List.length_take]; omega

theorem lead_step {bs : List UInt8} {k : Nat} (h : k < bs.length) (hb : 127 < (bs.getD k 0).toNat) (hk : lead bs = k + lead (bs.drop k)) : lead bs = (k + 1) + lead (bs.drop (k + 1)) := by
  rw [hk, List.drop_eq_getElem_cons h, lead]
  have e : bs.getD k 0 = bs[k] := by simp [List.getElem?_eq_getElem h]
  rw [e] at hb
  rw [if_pos hb]
  omega
theorem lead_stop {bs : List UInt8} {k : Nat} (h : bs.length ≤ k ∨ ¬ 127 < (bs.getD k 0).toNat) (hk : lead bs = k + lead (bs.drop k)) : lead bs = k := by
  by_cases hl : bs.length ≤ k
  · rw [hk, List.drop_eq_nil_of_le hl]; rfl
  · have hl' : k < bs.length := by omega
    have e : bs.getD k 0 = bs[k] := by simp [List.getElem?_eq_getElem hl']
    have hb : ¬ 127 < bs[k].toNat := by rw [e] at h; omega
    rw [hk, List.drop_eq_getElem_cons hl', lead, if_neg hb]
    rfl

/-- the groups of bytes j .. k, the last one first. -/
def gv (bs : List UInt8) (k j : Nat) : Nat := gval ((bs.take k).drop j) % 18446744073709551616
theorem gv_end (bs : List UInt8) (k : Nat) : gv bs k k = 0 := by
  unfold gv
  rw [List.drop_eq_nil_of_le (by simp; omega)]
  rfl
theorem gv_step {bs : List UInt8} {k j : Nat} (hj : j < k) (hk : k ≤ bs.length) :
    bits .or .u64 (IntKind.u64.wrap ((gv bs k (j + 1) : Int) * 128)) (((bs.getD j 0).toNat % 128 : Nat) : Int) = (gv bs k j : Int) := by
  have hj' : j < bs.length := by omega
  have e : bs.getD j 0 = bs[j] := by simp [List.getElem?_eq_getElem hj']
  have hd : (bs.take k).drop j = bs[j] :: (bs.take k).drop (j + 1) := by
    rw [List.drop_eq_getElem_cons (by simp; omega)]
    simp
  rw [e]
  unfold gv
  rw [hd, gval]
  generalize gval ((bs.take k).drop (j + 1)) = y
  have hx : bs[j].toNat % 128 < 128 := Nat.mod_lt _ (by omega)
  generalize bs[j].toNat % 128 = x at hx
  have e1 : IntKind.u64.wrap (((y % 18446744073709551616 : Nat) : Int) * 128) = ((y * 128 % 18446744073709551616 : Nat) : Int) := by rw [IntKind.wrap_u64]; omega
  rw [e1, u64_or_nat _ _ (by omega) (by omega)]
  have e2 : y * 128 % 18446744073709551616 = y % 144115188075855872 * 2 ^ 7 := by omega
  rw [e2, Nat.or_comm, or_shift (k := 7) (by omega)]
  omega
end Go.Proofs.Ythlbfnoahdjdeaa
namespace Go.Proofs.Ythlbfnoahdjdeaa
set_option linter.unusedVariables false
set_option linter.unusedSimpArgs false
open Go.RowKit

set_option maxRecDepth 100000 in
set_option maxHeartbeats 800000 in
theorem refUint_any (u : Nat) (w : World) (hu : u < 18446744073709551616) :
    Calls Try.prog 46 #[.int .u64 u] w (GivesB w (enc u)) := by
  have HM := hide (fun i => @enc_more u i)
  have HA := hide (fun i => @enc_at u i hu)
  have hl := enc_len u
  obtain ⟨i0, hi, hz, hsz, hby⟩ := info_parts Try.info5
  obtain ⟨L, HL⟩ : ∃ L, Hid ((enc u).length = L) := ⟨_, hide rfl⟩
  rw [HL.out] at hl HM HA
  obtain ⟨hl1, hl2⟩ := hl
  generalize enc u = E at HL HM HA
  go_enter Try.func46, Try.ntmps46
  go_wp2
  go_loop [3] (fun i => ∃ k : Nat, 1 ≤ k ∧ k ≤ L ∧ i = .int .i64 k) (fun i => 10 - (intOf i).toNat)
  case atStart => exact ⟨1, by omega, hl1, rfl⟩
  case round =>
    obtain ⟨k, hk1, hkL, rfl⟩ := hrel
    have hm := HM.out k hk1 hkL
    have hp : (0 : Int) < 2 ^ (7 * k) := Int.pow_pos (by omega)
    by_cases hlt : k < L
    · have h10 := (hm.1 hlt).1
      have hgt := (hm.1 hlt).2
      clear hm
      have hg2 : (0 : Int) < (u : Int) / 2 ^ (7 * k) := by
        have : ((u / 2 ^ (7 * k) : Nat) : Int) = (u : Int) / 2 ^ (7 * k) := by simp
        omega
      clear hgt
      go_wp2
      go_round
      case rel => exact ⟨k + 1, by omega, by omega, by go_num⟩
      case measure => simp [intOf]; omega
    · obtain rfl : k = L := by omega
      have hstop : (((k : Int) < 10 ∧ decide ((0 : Int) < (u : Int) / 2 ^ (7 * k)) = false) ∨ ¬ (k : Int) < 10) := by
        by_cases h10 : k < 10
        · refine .inl ⟨by omega, ?_⟩
          have : ¬ 0 < u / 2 ^ (7 * k) := fun h => hlt (hm.2 ⟨h10, h⟩)
          have e : ((u / 2 ^ (7 * k) : Nat) : Int) = (u : Int) / 2 ^ (7 * k) := by simp
          simp only [decide_eq_false_iff_not]
          omega
        · exact .inr (by omega)
      clear hm hlt
      rcases hstop with ⟨h10, hz0⟩ | h10
      all_goals
        go_wp2
        go_loopw [4, 5] (fun v i wr => ∃ j : Nat, j ≤ k ∧ i = .int .i64 j ∧ Hid (Own wr w.heap.size 5 1 v j (by8 (E.take j))) ∧ Hid (Fr No w wr)) (fun _ i _ => k - (intOf i).toNat)
        case atStart => exact ⟨0, by omega, rfl, hide (Own.nil _ _ _ _), hide (Fr.refl _ _)⟩
        case round =>
          obtain ⟨j, hj, rfl, HOw, HFr⟩ := hrel
          have hgw := HFr.out.size
          by_cases hlt : j < k
          · have hat := HA.out j hlt
            have hsn := take_snoc8 (l := E) (k := j) (by rw [HL.out]; exact hlt)
            have HSN := hide hsn
            clear hsn
            generalize E.getD j 0 = b at hat HSN
            by_cases hmore : j + 1 < k
            · rw [if_pos hmore] at hat
              have hb : (u : Int) / 2 ^ (7 * j) % 128 + 128 = (b.toNat : Int) := by rw [hat]; simp
              clear hat
              have HS := hide (Src.one (P := Try.prog) wr (e := 5) Try.underlying25 (.int .u8 b.toNat) rfl)
              have HOw' := hide (HOw.out.fr0 ((Fr.refl No wr).alloc (.cells #[.int .u8 b.toNat] 5)))
              have b1 : (j + 1) * 1 ≤ 140737488355328 := by omega
              have b2 : j + 1 ≤ maxLen := by unfold maxLen; omega
              have b3 : w.heap.size ≤ (wr.alloc (.cells #[.int .u8 b.toNat] 5)).heap.size := by simp; omega
              go_wp2_with (at_builtin; refine wpList_append_gen _ rfl (.tmp 37) (.tmp 39) 25 25 rfl w.heap.size 5 i0 (.int .u8 0) 1 1 Try.underlying25 hi hz hsz hby rfl u4 j (by8 (E.take j)) rfl HOw'.out _ 1 [.int .u8 b.toNat] rfl HS.out b1 b2 b3 ?_; intro v' w' hown hfr hat; have HOn := hide hown; have HFn := hide hfr; clear hown hfr hat)
              go_roundw
              case rel => exact ⟨j + 1, by omega, by go_num, hide (by rw [HSN.out, by8_append]; exact HOn.out), hide ((HFr.out.alloc _).own HFn.out (fun g hg => .inl (HOw.out.lt g hg).1))⟩
              case measure => simp [intOf]; omega
            · rw [if_neg hmore] at hat
              have hb : (u : Int) / 2 ^ (7 * j) % 128 = (b.toNat : Int) := by rw [hat]; simp
              clear hat
              have HS := hide (Src.one (P := Try.prog) wr (e := 5) Try.underlying25 (.int .u8 b.toNat) rfl)
              have HOw' := hide (HOw.out.fr0 ((Fr.refl No wr).alloc (.cells #[.int .u8 b.toNat] 5)))
              have b1 : (j + 1) * 1 ≤ 140737488355328 := by omega
              have b2 : j + 1 ≤ maxLen := by unfold maxLen; omega
              have b3 : w.heap.size ≤ (wr.alloc (.cells #[.int .u8 b.toNat] 5)).heap.size := by simp; omega
              go_wp2_with (at_builtin; refine wpList_append_gen _ rfl (.tmp 37) (.tmp 39) 25 25 rfl w.heap.size 5 i0 (.int .u8 0) 1 1 Try.underlying25 hi hz hsz hby rfl u4 j (by8 (E.take j)) rfl HOw'.out _ 1 [.int .u8 b.toNat] rfl HS.out b1 b2 b3 ?_; intro v' w' hown hfr hat; have HOn := hide hown; have HFn := hide hfr; clear hown hfr hat)
              go_roundw
              case rel => exact ⟨j + 1, by omega, by go_num, hide (by rw [HSN.out, by8_append]; exact HOn.out), hide ((HFr.out.alloc _).own HFn.out (fun g hg => .inl (HOw.out.lt g hg).1))⟩
              case measure => simp [intOf]; omega
          · go_wp2
            go_ret
            have hjk : j = k := by omega
            refine ⟨_, rfl, ?_, HFr.out⟩
            have h := HOw.out
            rw [hjk, List.take_of_length_le (by rw [HL.out]; omega)] at h
            rw [HL.out]
            exact h

end Go.Proofs.Ythlbfnoahdjdeaa
