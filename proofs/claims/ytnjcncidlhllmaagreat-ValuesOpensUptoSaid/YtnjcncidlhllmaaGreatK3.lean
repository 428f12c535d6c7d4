/- Several texts in one: UnbW. -/
import Derived.Test.YtnjcncidlhllmaaGreatK2
import Derived.RegionTactic
import Derived.BigRegion
import Derived.ChangeAlike
import Derived.Deep.LoopGhost
namespace Go.Proofs.YtnjcncidlhllmaaGreat
set_option linter.unusedVariables false
set_option linter.unusedSimpArgs false
open Go.RowKit

theorem make_b8 (k : Nat) (hk : k ≤ 140737488355328) (W : World) : (Instr.makeSlice 25 (.int .i64 (k : Nat)) (.int .i64 (k : Nat))).run Tryz.prog W = .ok (.slice (some ⟨W.heap.size, 0, none⟩) k k) (W.alloc (.cells (madeCells #[.int .u8 0] k) 5)) := by
  obtain ⟨i0, hi, hz, hsz, hby⟩ := info_parts Tryz.info5
  have h := run_make (P := Tryz.prog) W 25 5 i0 (.int .u8 0) Tryz.underlying25 hi hz .i64 .i64 (k : Int) (k : Int) (by omega) (by omega) (by rw [hby]; omega) (by omega)
  rw [Int.toNat_natCast, hsz, Nat.mul_one] at h
  exact h

set_option maxRecDepth 100000 in
set_option maxHeartbeats 400000 in
theorem bits_out (A : Option Addr) (n c : Nat) (wi : Int) (w : World) (h : wi < 1 ∨ 64 < wi) :
    Calls Tryz.prog 100 #[.slice A n c, .int .i64 wi] w (Ret (.slice none 0 0) w) := by
  by_cases h1 : wi < 1
  · go_enter Tryz.func100, Tryz.ntmps100
    go_wp2
    go_ret
    exact ⟨rfl, rfl⟩
  · have h2 : 64 < wi := by omega
    clear h
    go_enter Tryz.func100, Tryz.ntmps100
    go_wp2
    go_ret
    exact ⟨rfl, rfl⟩

theorem Own.put {w : World} {base e n c G : Nat} {xs : List Value} (h : Own w base e 1 (.slice (some ⟨G, 0, none⟩) n c) n xs) {k : Nat} (hk : k < n) :
    w.cell? ⟨G, k, none⟩ = xs[k]? ∧ w.frozen? ⟨G, k, none⟩ = false ∧ ∀ v : Value, Own (w.setCell ⟨G, k, none⟩ v) base e 1 (.slice (some ⟨G, 0, none⟩) n c) n (xs.set k v) := by
  obtain ⟨g, e1, h1, h2, h3, h4, h5⟩ := h.store hk
  injection e1 with e1
  injection e1 with e1 _ _
  subst e1
  exact ⟨h3, h4, h5⟩
theorem Fr.putG (w w' : World) (G j : Nat) (v : Value) (h : Fr No w w') (hG : w.heap.size ≤ G) : Fr No w (w'.setCell ⟨G, j, none⟩ v) :=
  h.setCell (p := ⟨G, j, none⟩) (fun hlt => by have : G < w.heap.size := hlt; omega) v

theorem mask_nat (d : Nat) (h : d ≤ 8) : IntKind.u64.wrap (IntKind.u64.wrap (2 ^ d) - 1) = ((2 ^ d - 1 : Nat) : Int) := by
  have : d = 0 ∨ d = 1 ∨ d = 2 ∨ d = 3 ∨ d = 4 ∨ d = 5 ∨ d = 6 ∨ d = 7 ∨ d = 8 := by omega
  rcases this with rfl | rfl | rfl | rfl | rfl | rfl | rfl | rfl | rfl <;> decide
theorem int_shr (x k : Nat) : ((x : Int) / 2 ^ k) = ((x >>> k : Nat) : Int) := by rw [Nat.shiftRight_eq_div_pow]; simp
theorem and_mask_lt (y d : Nat) : y &&& (2 ^ d - 1) < 2 ^ d := by
  rw [Nat.and_two_pow_sub_one_eq_mod]
  exact Nat.mod_lt _ (Nat.two_pow_pos d)
theorem part_val {x q d s old : Nat} (hx : x < 18446744073709551616) (hd : s + d ≤ 8) (ho : old < 256) :
    bits .or .u8 (old : Int) (bits .and .u64 ((x : Int) / 2 ^ q) (IntKind.u64.wrap (IntKind.u64.wrap (2 ^ d) - 1)) % 256 * 2 ^ s % 256) = ((old ||| part x q d s : Nat) : Int) := by
  have hq : x >>> q < 18446744073709551616 := by
    rw [Nat.shiftRight_eq_div_pow]
    exact Nat.lt_of_le_of_lt (Nat.div_le_self _ _) hx
  have hm : 2 ^ d - 1 < 18446744073709551616 := by have : 2 ^ d ≤ 2 ^ 8 := p2 (by omega); omega
  have hlt := and_mask_lt (x >>> q) d
  have h256 : 2 ^ d ≤ 2 ^ 8 := p2 (by omega)
  have hmul : ((x >>> q) &&& (2 ^ d - 1)) * 2 ^ s < 256 := by
    have h1 : ((x >>> q) &&& (2 ^ d - 1)) * 2 ^ s < 2 ^ d * 2 ^ s := Nat.mul_lt_mul_of_pos_right hlt (Nat.two_pow_pos s)
    rw [← Nat.pow_add] at h1
    have h2 : 2 ^ (d + s) ≤ 2 ^ 8 := p2 (by omega)
    omega
  rw [mask_nat d (by omega), int_shr, u64_and_nat _ _ hq hm]
  have e : (((x >>> q &&& (2 ^ d - 1) : Nat) : Int) % 256 * 2 ^ s % 256) = ((part x q d s : Nat) : Int) := by
    have e1 : (((x >>> q &&& (2 ^ d - 1) : Nat) : Int) % 256) = ((x >>> q &&& (2 ^ d - 1) : Nat) : Int) := by omega
    rw [e1]
    have e2 : (((x >>> q &&& (2 ^ d - 1) : Nat) : Int) * 2 ^ s) = (((x >>> q &&& (2 ^ d - 1)) * 2 ^ s : Nat) : Int) := by simp
    rw [e2]
    unfold part
    rw [Nat.shiftLeft_eq]
    omega
  rw [e]
  exact u8_or_nat _ _ ho (part_lt (n := 8) hd)
theorem bits_set {wd j q d m t x old s8 q8 : Nat} {l : List Nat} (ht : t = wd * j + q) (hs : s8 = t % 8) (hq8 : q8 = t / 8) (hX : l.getD j 0 = x) (hO : old = pby (pbit wd l) t q8) (hq : q + d ≤ wd) (hd : s8 + d ≤ 8) :
    (by8 (pbys (pbit wd l) t m)).set q8 (.int .u8 ((old ||| part x q d s8 : Nat) : Int)) = by8 (pbys (pbit wd l) (t + d) m) := by
  subst hO; subst hX; subst hs; subst hq8
  rw [← pbys_set (f := pbit wd l) (t := t) (t' := t + d) (by omega) (by omega)]
  subst ht
  rw [pack_step l hq hd]

set_option maxRecDepth 100000 in
set_option maxHeartbeats 2000000 in
theorem bits_in (A : Option Addr) (n c B wd : Nat) (l : List Nat) (w : World) (hl : l.length = n) (hi : In64 l) (hn : n ≤ c) (hc : c ≤ maxLen) (hb : n ≤ 1099511627776) (hw1 : 1 ≤ wd) (hw2 : wd ≤ 64) (hB : B ≤ w.heap.size) (hr : Rd w B A (nz l)) :
    Calls Tryz.prog 100 #[.slice A n c, .int .i64 (wd : Nat)] w (GivesB w (packed wd l)) := by
  unfold maxLen at hc
  have HR := hide hr
  have HL := hide hl
  have HI := hide hi
  have hwn : wd * n ≤ 64 * n := Nat.mul_le_mul_right _ hw2
  have HZ := hide (fun w => size_any wd n w (by omega))
  obtain ⟨m, hm⟩ : ∃ m, m = psz wd n := ⟨_, rfl⟩
  have hm8 : wd * n ≤ 8 * m := by rw [hm]; unfold psz; omega
  have hmb : m ≤ 140737488355328 := by rw [hm]; unfold psz; omega
  rw [← hm] at HZ
  have HM := hide hm
  have hmk := make_b8 m hmb
  have HO := hide (made_own w m 5 (.int .u8 0) _ rfl (by unfold maxLen; omega))
  rw [← pbys_none (pbit wd l)] at HO
  generalize madeCells #[Value.int .u8 0] m = z at hmk HO
  clear hr hl hi hm
  go_enter Tryz.func100, Tryz.ntmps100
  go_wp2_with (go_at_call 103; refine (HZ.out _).mono ?_; rintro en w' ⟨rfl, rfl⟩)
  have hF0 : Fr No w (w.alloc (.cells z 5)) := (Fr.refl No w).alloc _
  go_loopw [6, 8, 9, 10, 11, 25] (fun at_ x k fr tk i wr => ∃ j : Nat, j ≤ n ∧ i = .int .i64 j ∧ at_ = .int .i64 ((wd * j : Nat) : Int) ∧ Hid (Own wr w.heap.size 5 1 (.slice (some ⟨w.heap.size, 0, none⟩) m m) m (by8 (pbys (pbit wd l) (wd * j) m))) ∧ Hid (Fr No w wr)) (fun _ _ _ _ _ i _ => n - (intOf i).toNat)
  case atStart => exact ⟨0, by omega, rfl, rfl, HO, hide hF0⟩
  case round =>
    obtain ⟨j, hj, rfl, rfl, HOw, HFr⟩ := hrel
    by_cases hlt : j < n
    · have h1 : j < l.length := by rw [HL.out]; exact hlt
      obtain ⟨ad, rfl, _, hcell⟩ := (HR.out.fr0 HFr.out).natAt h1
      have hx := HI.out.at j
      clear h1
      generalize hxx : l.getD j 0 = x at hcell hx
      have HX := hide hxx
      have hT1 : wd * (j + 1) ≤ wd * n := Nat.mul_le_mul_left _ hlt
      have hT2 : wd * (j + 1) = wd * j + wd := by rw [Nat.mul_add, Nat.mul_one]
      obtain ⟨T, hT⟩ : ∃ T, T = wd * j := ⟨_, rfl⟩
      rw [← hT] at HOw hT2
      have HT := hide hT
      have HT2 := hide hT2
      have hTm : T + wd ≤ 8 * m := by omega
      clear hT1 hxx hT hT2
      rw [← HT.out]
      go_wp2
      go_loopw [6, 9, 10, 11] (fun at_ k fr tk wx => ∃ q t : Nat, q ≤ wd ∧ t = T + q ∧ k = .int .i64 (q : Nat) ∧ at_ = .int .i64 (t : Nat) ∧ Hid (Own wx w.heap.size 5 1 (.slice (some ⟨w.heap.size, 0, none⟩) m m) m (by8 (pbys (pbit wd l) t m))) ∧ Hid (Fr No w wx)) (fun _ k _ _ _ => wd - (intOf k).toNat)
      case atStart => exact ⟨0, T, by omega, rfl, rfl, rfl, HOw, HFr⟩
      case round =>
        clear HOw HFr
        obtain ⟨q, t, hq, ht, rfl, rfl, HOw, HFr⟩ := hrel
        by_cases hlt2 : q < wd
        · have htm : t ≤ 1125899906842624 := by omega
          obtain ⟨s8, hs8⟩ : ∃ s, s = t % 8 := ⟨_, rfl⟩
          obtain ⟨q8, hq8⟩ : ∃ s, s = t / 8 := ⟨_, rfl⟩
          have e1 : (t : Int) % 8 = (s8 : Int) := by omega
          have e2 : (t : Int) / 8 = (q8 : Int) := by omega
          have hqm : q8 < m := by omega
          obtain ⟨hc1, hf1, hput⟩ := HOw.out.put (k := q8) (by omega)
          rw [pbys_cell hqm] at hc1
          have HPut := hide hput
          obtain ⟨a, ha⟩ : ∃ a, a = 8 - s8 := ⟨_, rfl⟩
          obtain ⟨b, hb⟩ : ∃ b, b = wd - q := ⟨_, rfl⟩
          have e3 : (8 : Int) - (s8 : Int) = (a : Int) := by omega
          have e4 : (wd : Int) - (q : Int) = (b : Int) := by omega
          have hs88 : s8 ≤ 7 := by omega
          have ha8 : 1 ≤ a ∧ a ≤ 8 := by omega
          have hb64 : 1 ≤ b ∧ b ≤ 64 := by omega
          have HS8 := hide hs8
          have HQ8 := hide hq8
          have HAA := hide ha
          have HBB := hide hb
          have HTT := hide ht
          clear hput hs8 hq8 ha hb ht
          have hp8 := pby_lt (pbit wd l) t q8
          obtain ⟨old, hold⟩ : ∃ o, o = pby (pbit wd l) t q8 := ⟨_, rfl⟩
          rw [← hold] at hc1 hp8
          have HOld := hide hold
          clear hold
          by_cases hab : a ≤ b
          · have HV := hide (part_val (q := q) (d := a) (s := s8) hx (by omega) hp8)
            have HE := hide (fun h1 h2 => bits_set (m := m) (d := a) (HTT.out.trans (by rw [HT.out])) HS8.out HQ8.out HX.out HOld.out h1 h2)
            have HQD : Hid (q + a ≤ wd) := hide (by omega)
            have HSD : Hid (s8 + a ≤ 8) := hide (by have := HAA.out; omega)
            go_wp2_with (fail)
            go_region
            go_wp2
            go_roundw
            case rel =>
              refine ⟨q + a, t + a, HQD.out, by rw [HTT.out]; omega, by go_num, by go_num, hide ?_, hide (Fr.putG _ _ _ _ _ HFr.out (Nat.le_refl _)).drew⟩
              rw [HV.out, ← HE.out HQD.out HSD.out]
              exact (HPut.out _).fr0 ((Fr.refl No _).drew)
            case measure => simp [intOf]; omega
          · have HV := hide (part_val (q := q) (d := b) (s := s8) hx (by omega) hp8)
            have HE := hide (fun h1 h2 => bits_set (m := m) (d := b) (HTT.out.trans (by rw [HT.out])) HS8.out HQ8.out HX.out HOld.out h1 h2)
            have HQD : Hid (q + b ≤ wd) := hide (by omega)
            have HSD : Hid (s8 + b ≤ 8) := hide (by have := HAA.out; omega)
            have hba : b < a := by omega
            clear hab
            go_wp2_with (fail)
            go_region
            go_wp2
            go_roundw
            case rel =>
              refine ⟨q + b, t + b, HQD.out, by rw [HTT.out]; omega, by go_num, by go_num, hide ?_, hide (Fr.putG _ _ _ _ _ HFr.out (Nat.le_refl _)).drew⟩
              rw [HV.out, ← HE.out HQD.out HSD.out]
              exact (HPut.out _).fr0 ((Fr.refl No _).drew)
            case measure => simp [intOf]; omega
        · have HN : Hid (t = wd * (j + 1)) := hide (by rw [HT2.out]; omega)
          clear ht
          go_wp2
          go_roundw
          case rel => exact ⟨j + 1, by omega, by go_num, by rw [HN.out], by rw [← HN.out]; exact HOw, HFr⟩
          case measure => simp [intOf]; omega
    · obtain rfl : j = n := by omega
      go_wp2
      go_ret
      refine ⟨_, rfl, ?_, HFr.out⟩
      have h := HOw.out
      unfold packed
      rw [pbys_len, HL.out, ← HM.out]
      exact h
end Go.Proofs.YtnjcncidlhllmaaGreat
namespace Go.Proofs.YtnjcncidlhllmaaGreat
set_option linter.unusedVariables false
set_option linter.unusedSimpArgs false
open Go.RowKit

theorem make_u64 (k : Nat) (hk : k ≤ 1048576) (W : World) : (Instr.makeSlice 129 (.int .i64 (k : Nat)) (.int .i64 (k : Nat))).run Tryz.prog W = .ok (.slice (some ⟨W.heap.size, 0, none⟩) k k) (W.alloc (.cells (madeCells #[.int .u64 0] k) 79)) := by
  obtain ⟨i0, hi, hz, hsz, hby⟩ := info_parts Tryz.infoKU64
  have h := run_make (P := Tryz.prog) W 129 79 i0 (.int .u64 0) Tryz.underlying129 hi hz .i64 .i64 (k : Int) (k : Int) (by omega) (by omega) (by rw [hby]; omega) (by omega)
  rw [Int.toNat_natCast, hsz, Nat.mul_one] at h
  exact h

set_option maxRecDepth 100000 in
set_option maxHeartbeats 400000 in
theorem unb_arg (A : Option Addr) (n c : Nat) (wi ni : Int) (w : World) (h : wi < 0 ∨ 64 < wi ∨ ni < 0 ∨ 1048576 < ni) :
    Calls Tryz.prog 102 #[.slice A n c, .int .i64 wi, .int .i64 ni] w (Ret (.tuple #[.slice none 0 0, .int .i64 1]) w) := by
  by_cases h1 : wi < 0
  · clear h
    go_enter Tryz.func102, Tryz.ntmps102
    go_wp2
    go_step3
    go_wp2
    try rw [Exit.noGoto_ret]
    go_ret2
    exact ⟨rfl, rfl⟩
  · by_cases h2 : 64 < wi
    · clear h
      go_enter Tryz.func102, Tryz.ntmps102
      go_wp2
      go_step3
      go_wp2
      try rw [Exit.noGoto_ret]
      go_ret2
      exact ⟨rfl, rfl⟩
    · by_cases h3 : ni < 0
      · clear h
        go_enter Tryz.func102, Tryz.ntmps102
        go_wp2
        go_step3
        go_wp2
        try rw [Exit.noGoto_ret]
        go_ret2
        exact ⟨rfl, rfl⟩
      · have h4 : 1048576 < ni := by omega
        clear h
        go_enter Tryz.func102, Tryz.ntmps102
        go_wp2
        go_step3
        go_wp2
        try rw [Exit.noGoto_ret]
        go_ret2
        exact ⟨rfl, rfl⟩

set_option maxRecDepth 100000 in
set_option maxHeartbeats 400000 in
theorem unb_len (A : Option Addr) (m c wd n : Nat) (w : World) (hw : wd ≤ 64) (hn : n ≤ 1048576) (h : m ≠ psz wd n) :
    Calls Tryz.prog 102 #[.slice A m c, .int .i64 (wd : Nat), .int .i64 (n : Nat)] w (Ret (.tuple #[.slice none 0 0, .int .i64 20]) w) := by
  have hwn : wd * n ≤ 64 * n := Nat.mul_le_mul_right _ hw
  have HZ := hide (fun w => size_any wd n w (by omega))
  generalize psz wd n = p at h HZ
  have hb : ((m : Int) != (p : Int)) = true := by simp; omega
  clear h
  go_enter Tryz.func102, Tryz.ntmps102
  go_wp2
  go_step3
  go_wp2_with (go_at_call 103; refine (HZ.out _).mono ?_; rintro en w' ⟨rfl, rfl⟩)
  try rw [Exit.noGoto_ret]
  go_ret2
  exact ⟨rfl, rfl⟩

/-- numbers of a call's own, or refused. -/
def GivesUnb (r : List Nat × Int) (w : World) (en : Ending) (w' : World) : Prop :=
  ∃ v, en = .returned (.tuple #[v, .int .i64 r.2]) ∧ Own w' w.heap.size 79 1 v r.1.length (nz r.1) ∧ Fr No w w'

theorem mask8_nat (d : Nat) (h : d ≤ 8) : ((2 : Int) ^ d - 1) % 256 = ((2 ^ d - 1 : Nat) : Int) := by
  have : d = 0 ∨ d = 1 ∨ d = 2 ∨ d = 3 ∨ d = 4 ∨ d = 5 ∨ d = 6 ∨ d = 7 ∨ d = 8 := by omega
  rcases this with rfl | rfl | rfl | rfl | rfl | rfl | rfl | rfl | rfl <;> decide
theorem upart_val {y q d s old : Nat} (hy : y < 256) (hd : d ≤ 8) (hq : q + d ≤ 64) (ho : old < 18446744073709551616) :
    bits .or .u64 (old : Int) (IntKind.u64.wrap (IntKind.u64.wrap (bits .and .u8 ((y : Int) / 2 ^ s) (((2 : Int) ^ d - 1) % 256)) * 2 ^ q)) = ((old ||| part y s d q : Nat) : Int) := by
  have hs : y >>> s < 256 := by
    rw [Nat.shiftRight_eq_div_pow]
    exact Nat.lt_of_le_of_lt (Nat.div_le_self _ _) hy
  have hm : 2 ^ d - 1 < 256 := by have : 2 ^ d ≤ 2 ^ 8 := p2 (by omega); omega
  have hlt := and_mask_lt (y >>> s) d
  have hmul : ((y >>> s) &&& (2 ^ d - 1)) * 2 ^ q < 18446744073709551616 := by
    have h1 : ((y >>> s) &&& (2 ^ d - 1)) * 2 ^ q < 2 ^ d * 2 ^ q := Nat.mul_lt_mul_of_pos_right hlt (Nat.two_pow_pos q)
    rw [← Nat.pow_add] at h1
    have h2 : 2 ^ (d + q) ≤ 2 ^ 64 := p2 (by omega)
    omega
  rw [mask8_nat d hd, int_shr, u8_and_nat _ _ hs hm]
  have e1 : IntKind.u64.wrap ((y >>> s &&& (2 ^ d - 1) : Nat) : Int) = ((y >>> s &&& (2 ^ d - 1) : Nat) : Int) := by
    rw [IntKind.wrap_u64]
    have : 2 ^ d ≤ 2 ^ 8 := p2 (by omega)
    omega
  rw [e1]
  have e2 : (((y >>> s &&& (2 ^ d - 1) : Nat) : Int) * 2 ^ q) = (((y >>> s &&& (2 ^ d - 1)) * 2 ^ q : Nat) : Int) := by simp
  rw [e2]
  have e3 : IntKind.u64.wrap (((y >>> s &&& (2 ^ d - 1)) * 2 ^ q : Nat) : Int) = ((part y s d q : Nat) : Int) := by
    rw [IntKind.wrap_u64]
    unfold part
    rw [Nat.shiftLeft_eq]
    omega
  rw [e3]
  exact u64_or_nat _ _ ho (part_lt (n := 64) hq)
theorem unb_set {wd j q d n t y old s8 q8 : Nat} {b : List UInt8} (hj : j < n) (ht : t = wd * j + q) (hs : s8 = t % 8) (hq8 : q8 = t / 8) (hY : y = (b.getD q8 0).toNat) (hO : old = unum wd b t j) (hq : q + d ≤ wd) (hd : s8 + d ≤ 8) :
    (nz (unums wd b t n)).set j (.int .u64 ((old ||| part y s8 d q : Nat) : Int)) = nz (unums wd b (t + d) n) := by
  subst hO; subst hY; subst hs; subst hq8; subst ht
  rw [nz_set, unpack_step b hq hd, unums_set hq hj]

set_option maxRecDepth 100000 in
set_option maxHeartbeats 2000000 in
theorem unb_in (A : Option Addr) (m c B wd n : Nat) (b : List UInt8) (w : World) (hl : b.length = m) (hm : m = psz wd n) (hc1 : m ≤ c) (hc : c ≤ maxLen) (hn : n ≤ 1048576) (hw : wd ≤ 64) (hB : B ≤ w.heap.size) (hr : Rd w B A (by8 b)) :
    Calls Tryz.prog 102 #[.slice A m c, .int .i64 (wd : Nat), .int .i64 (n : Nat)] w (GivesUnb (if leftN b (wd * n) = 0 then (unpacked wd n b, 0) else ([], 20)) w) := by
  obtain ⟨r, hres⟩ : ∃ r, r = (if leftN b (wd * n) = 0 then (unpacked wd n b, 0) else ([], 20) : List Nat × Int) := ⟨_, rfl⟩
  rw [← hres]
  have HRes := hide hres
  clear hres
  unfold maxLen at hc
  have HR := hide hr
  have HL := hide hl
  have hwn : wd * n ≤ 64 * n := Nat.mul_le_mul_right _ hw
  have HZ := hide (fun w => size_any wd n w (by omega))
  rw [← hm] at HZ
  have hm8 : wd * n ≤ 8 * m := by rw [hm]; unfold psz; omega
  have hmb : m ≤ 8388608 := by rw [hm]; unfold psz; omega
  have HM := hide hm
  have hmk := make_u64 n hn
  have HO := hide (made_own w n 79 (.int .u64 0) _ rfl (by unfold maxLen; omega))
  rw [← nz_rep, ← unums_none wd b n] at HO
  generalize madeCells #[Value.int .u64 0] n = z at hmk HO
  have hb0 : ((m : Int) != (m : Int)) = false := by simp
  clear hr hl hm
  go_enter Tryz.func102, Tryz.ntmps102
  go_wp2
  go_step3
  go_wp2_with (go_at_call 103; refine (HZ.out _).mono ?_; rintro en w' ⟨rfl, rfl⟩)
  go_step3
  go_wp2
  have hF0 : Fr No w (w.alloc (.cells z 79)) := (Fr.refl No w).alloc _
  go_loopg [9, 10, 11, 12, 39] n (fun gk at_ i k tk ix wr => ∃ j : Nat, j + gk = n ∧ ix = .int .i64 j ∧ at_ = .int .i64 ((wd * j : Nat) : Int) ∧ Hid (Own wr w.heap.size 79 1 (.slice (some ⟨w.heap.size, 0, none⟩) n n) n (nz (unums wd b (wd * j) n))) ∧ Hid (Fr No w wr))
  case atStart => exact ⟨0, by omega, rfl, rfl, HO, hide hF0⟩
  case round =>
    obtain ⟨j, hj, rfl, rfl, HOw, HFr⟩ := hrel
    by_cases hlt : j < n
    · have hT1 : wd * (j + 1) ≤ wd * n := Nat.mul_le_mul_left _ hlt
      have hT2 : wd * (j + 1) = wd * j + wd := by rw [Nat.mul_add, Nat.mul_one]
      obtain ⟨T, hT⟩ : ∃ T, T = wd * j := ⟨_, rfl⟩
      rw [← hT] at HOw hT2
      have HT := hide hT
      have HT2 := hide hT2
      have hTm : T + wd ≤ 8 * m := by omega
      obtain ⟨g', rfl⟩ : ∃ g', gk = g' + 1 := ⟨gk - 1, by omega⟩
      have HJ := hide hj
      have hjn : j ≤ 1048576 := by omega
      clear hT1 hT hT2 hj
      rw [← HT.out]
      go_wp2
      go_loopg [9, 11, 12] wd (fun g2 at_ k tk wx => ∃ q t : Nat, Hid (q + g2 = wd) ∧ q ≤ wd ∧ Hid (t = T + q) ∧ k = .int .i64 (q : Nat) ∧ at_ = .int .i64 (t : Nat) ∧ Hid (Own wx w.heap.size 79 1 (.slice (some ⟨w.heap.size, 0, none⟩) n n) n (nz (unums wd b t n))) ∧ Hid (Fr No w wx))
      case atStart => exact ⟨0, T, hide (by omega), by omega, hide rfl, rfl, rfl, HOw, HFr⟩
      case round =>
        clear HOw HFr
        obtain ⟨q, t, HG, hq, HTT, rfl, rfl, HOw, HFr⟩ := hrel
        by_cases hlt2 : q < wd
        · have htm : t ≤ 67108864 := by have := HTT.out; omega
          obtain ⟨s8, hs8⟩ : ∃ s, s = t % 8 := ⟨_, rfl⟩
          obtain ⟨q8, hq8⟩ : ∃ s, s = t / 8 := ⟨_, rfl⟩
          have e1 : (t : Int) % 8 = (s8 : Int) := by omega
          have e2 : (t : Int) / 8 = (q8 : Int) := by omega
          have hqm : q8 < m := by have := HTT.out; omega
          obtain ⟨ad, rfl, _, hcb⟩ := (HR.out.fr0 HFr.out).byte (k := q8) (by rw [HL.out]; exact hqm)
          obtain ⟨hco, hf1, hput⟩ := HOw.out.put (k := j) hlt
          rw [nz_at _ (by rw [unums_len]; exact hlt)] at hco
          have hun : (unums wd b t n).getD j 0 = unum wd b t j := by rw [List.getD_eq_getElem?_getD, unums_at hlt]; rfl
          rw [hun] at hco
          have HPut := hide hput
          obtain ⟨a, ha⟩ : ∃ a, a = 8 - s8 := ⟨_, rfl⟩
          obtain ⟨b', hb⟩ : ∃ b, b = wd - q := ⟨_, rfl⟩
          have e3 : (8 : Int) - (s8 : Int) = (a : Int) := by omega
          have e4 : (wd : Int) - (q : Int) = (b' : Int) := by omega
          have hs88 : s8 ≤ 7 := by omega
          have ha8 : 1 ≤ a ∧ a ≤ 8 := by omega
          have hb64 : 1 ≤ b' ∧ b' ≤ 64 := by omega
          have HS8 := hide hs8
          have HQ8 := hide hq8
          have HAA := hide ha
          have HBB := hide hb
          clear hput hs8 hq8 ha hb hun
          have ho8 := unum_lt64 hw b t j
          obtain ⟨old, hold⟩ : ∃ o, o = unum wd b t j := ⟨_, rfl⟩
          rw [← hold] at hco ho8
          have HOld := hide hold
          have hy := (b.getD q8 0).toNat_lt
          obtain ⟨y, hyy⟩ : ∃ y, y = (b.getD q8 0).toNat := ⟨_, rfl⟩
          rw [← hyy] at hcb hy
          have HY := hide hyy
          clear hold hyy
          have hqb : ((q : Int) == (wd : Int)) = false := by simp; omega
          by_cases hab : a ≤ b'
          · have HV := hide (upart_val (q := q) (d := a) (s := s8) hy (by omega) (by omega) ho8)
            have HE := hide (fun h1 h2 => unb_set (n := n) (d := a) hlt (HTT.out.trans (by rw [HT.out])) HS8.out HQ8.out HY.out HOld.out h1 h2)
            have HQD : Hid (q + a ≤ wd) := hide (by have := HBB.out; omega)
            have HSD : Hid (s8 + a ≤ 8) := hide (by have := HAA.out; omega)
            have hd1 : 1 ≤ a := by omega
            go_wp2_with (fail)
            go_region
            go_wp2
            go_roundg (gk - a)
            case measure => have := HG.out; omega
            case rel =>
              refine ⟨q + a, t + a, hide (by have := HG.out; have := HQD.out; omega), HQD.out, hide (by rw [HTT.out]; omega), by go_num, by go_num, hide ?_, hide (Fr.putG _ _ _ _ _ HFr.out (Nat.le_refl _)).drew⟩
              rw [HV.out, ← HE.out HQD.out HSD.out]
              exact (HPut.out _).fr0 ((Fr.refl No _).drew)
          · have HV := hide (upart_val (q := q) (d := b') (s := s8) hy (by omega) (by omega) ho8)
            have HE := hide (fun h1 h2 => unb_set (n := n) (d := b') hlt (HTT.out.trans (by rw [HT.out])) HS8.out HQ8.out HY.out HOld.out h1 h2)
            have HQD : Hid (q + b' ≤ wd) := hide (by have := HBB.out; omega)
            have HSD : Hid (s8 + b' ≤ 8) := hide (by have := HAA.out; omega)
            have hba : b' < a := by omega
            clear hab
            have hd1 : 1 ≤ b' := by omega
            go_wp2_with (fail)
            go_region
            go_wp2
            go_roundg (gk - b')
            case measure => have := HG.out; omega
            case rel =>
              refine ⟨q + b', t + b', hide (by have := HG.out; have := HQD.out; omega), HQD.out, hide (by rw [HTT.out]; omega), by go_num, by go_num, hide ?_, hide (Fr.putG _ _ _ _ _ HFr.out (Nat.le_refl _)).drew⟩
              rw [HV.out, ← HE.out HQD.out HSD.out]
              exact (HPut.out _).fr0 ((Fr.refl No _).drew)
        · obtain rfl : q = wd := by omega
          have HN : Hid (t = q * (j + 1)) := hide (by rw [HT2.out, HTT.out])
          have hqb : ((q : Int) == (q : Int)) = true := by simp
          go_wp2
          go_roundg g'
          case measure => omega
          case rel => exact ⟨j + 1, by have := HJ.out; omega, by go_num, by rw [HN.out], hide (by rw [← HN.out]; exact HOw.out), HFr⟩
    · obtain rfl : j = n := by omega
      obtain ⟨t, ht⟩ : ∃ t, t = wd * j := ⟨_, rfl⟩
      have HT := hide ht
      rw [← ht] at HOw HRes hm8 ⊢
      have hz2 := HOw.out
      by_cases h0 : t % 8 = 0
      · have e1 : (t : Int) % 8 = 0 := by omega
        have HF := hide (show r = (unpacked wd j b, 0) by rw [HRes.out, if_pos (by unfold leftN; rw [if_pos h0])])
        clear h0 ht hz2 HRes
        go_wp2
        try rw [Exit.noGoto_ret]
        go_ret2
        rw [HF.out]
        refine ⟨_, rfl, ?_, HFr.out⟩
        unfold unpacked
        rw [unums_len, ← HT.out]
        exact HOw.out
      · obtain ⟨s8, hs8⟩ : ∃ s, s = t % 8 := ⟨_, rfl⟩
        obtain ⟨q8, hq8⟩ : ∃ s, s = t / 8 := ⟨_, rfl⟩
        have e1 : (t : Int) % 8 = (s8 : Int) := by omega
        have e2 : (t : Int) / 8 = (q8 : Int) := by omega
        have hqm : q8 < m := by rw [HM.out]; unfold psz; omega
        have hs1 : 1 ≤ s8 := by omega
        have hs7 : s8 ≤ 7 := by omega
        obtain ⟨ad, rfl, _, hcb⟩ := (HR.out.fr0 HFr.out).byte (k := q8) (by rw [HL.out]; exact hqm)
        have HLf := hide (show leftN b t = (b.getD q8 0).toNat >>> s8 by unfold leftN; rw [if_neg h0, hs8, hq8])
        have hy := (b.getD q8 0).toNat_lt
        obtain ⟨y, hyy⟩ : ∃ y, y = (b.getD q8 0).toNat := ⟨_, rfl⟩
        rw [← hyy] at hcb hy HLf
        have e5 := int_shr y s8
        clear hyy h0 hs8 hq8 ht hz2
        by_cases hz : y >>> s8 = 0
        · have hb2 : (((y >>> s8 : Nat) : Int) != 0) = false := by rw [hz]; rfl
          have HF := hide (show r = (unpacked wd j b, 0) by rw [HRes.out, HLf.out, if_pos hz])
          clear hz HRes HLf
          generalize y >>> s8 = x at e5 hb2
          go_wp2
          try rw [Exit.noGoto_ret]
          go_ret2
          rw [HF.out]
          refine ⟨_, rfl, ?_, HFr.out⟩
          unfold unpacked
          rw [unums_len, ← HT.out]
          exact HOw.out
        · have hb2 : (((y >>> s8 : Nat) : Int) != 0) = true := by simp only [bne_iff_ne, ne_eq]; omega
          have HF := hide (show r = ([], 20) by rw [HRes.out, HLf.out, if_neg hz])
          clear hz HRes HLf
          generalize y >>> s8 = x at e5 hb2
          go_wp2
          try rw [Exit.noGoto_ret]
          go_ret2
          rw [HF.out]
          exact ⟨_, rfl, Own.nil _ _ _ _, HFr.out⟩

/-- Unbits at whatever numbers. -/
theorem unb_any (A : Option Addr) (m c B : Nat) (wi ni : Int) (b : List UInt8) (w : World) (hl : b.length = m) (hc1 : m ≤ c) (hc : c ≤ maxLen) (hB : B ≤ w.heap.size) (hr : Rd w B A (by8 b)) :
    Calls Tryz.prog 102 #[.slice A m c, .int .i64 wi, .int .i64 ni] w (GivesUnb (unbitsZ b wi ni) w) := by
  unfold unbitsZ
  by_cases h : wi < 0 ∨ 64 < wi ∨ ni < 0 ∨ 1048576 < ni
  · rw [if_pos h]
    exact (unb_arg A m c wi ni w h).mono fun e w' ⟨h1, h2⟩ => ⟨_, h1, Own.nil _ _ _ _, h2 ▸ Fr.refl _ _⟩
  · rw [if_neg h]
    obtain ⟨wd, rfl⟩ := Int.eq_ofNat_of_zero_le (a := wi) (by omega)
    obtain ⟨n, rfl⟩ := Int.eq_ofNat_of_zero_le (a := ni) (by omega)
    rw [Int.toNat_natCast, Int.toNat_natCast]
    by_cases h2 : m = psz wd n
    · have h3 := unb_in A m c B wd n b w hl h2 hc1 hc (by omega) (by omega) hB hr
      by_cases h4 : leftN b (wd * n) = 0
      · rw [if_pos h4] at h3
        rw [if_neg (by rw [hl]; exact fun h => h.elim (fun h => h h2) (fun h => h h4))]
        exact h3
      · rw [if_neg h4] at h3
        rw [if_pos (.inr h4)]
        exact h3
    · rw [if_pos (.inl (by rw [hl]; exact h2))]
      exact (unb_len A m c wd n w (by omega) (by omega) h2).mono fun e w' ⟨h1, h2⟩ => ⟨_, h1, Own.nil _ _ _ _, h2 ▸ Fr.refl _ _⟩
/-- Bits at whatever width. -/
theorem bits_any (A : Option Addr) (n c B : Nat) (wi : Int) (l : List Nat) (w : World) (hl : l.length = n) (hi : In64 l) (hn : n ≤ c) (hc : c ≤ maxLen) (hb : n ≤ 1099511627776) (hB : B ≤ w.heap.size) (hr : Rd w B A (nz l)) :
    Calls Tryz.prog 100 #[.slice A n c, .int .i64 wi] w (GivesB w (bitsZ l wi)) := by
  unfold bitsZ
  by_cases h : wi < 1 ∨ 64 < wi
  · have e : (if 0 ≤ wi ∧ wi ≤ 64 then packed wi.toNat l else []) = [] := by
      split
      · have : wi = 0 := by omega
        rw [this]
        exact packed_0 l
      · rfl
    rw [e]
    exact (bits_out A n c wi w h).mono fun e w' ⟨h1, h2⟩ => ⟨_, h1, Own.nil _ _ _ _, h2 ▸ Fr.refl _ _⟩
  · rw [if_pos (by omega)]
    obtain ⟨wd, rfl⟩ := Int.eq_ofNat_of_zero_le (a := wi) (by omega)
    rw [Int.toNat_natCast]
    exact bits_in A n c B wd l w hl hi hn hc hb (by omega) (by omega) hB hr
end Go.Proofs.YtnjcncidlhllmaaGreat
