/- Several texts in one: WidW, UnbW, StoCP, PutU, PutT. -/
import Derived.Test.YtpnhnnhocekchaaK6
import Derived.Lib.BitFns
import Derived.Deep.Light
import Derived.RegionTactic
import Derived.BigRegion
import Derived.ChangeAlike
import Derived.Deep.LoopGhost
namespace Go.Proofs.Ytpnhnnhocekchaa
set_option linter.unusedVariables false
set_option linter.unusedSimpArgs false
open Go.RowKit

theorem len8_cl (k : Nat) (y : Int) (n : Nat) (h : y.toNat < Lib.len8tab.size) (h0 : 0 ≤ y) (hk : k ≤ 56) (hn : n = k + Lib.bitLen y.toNat) : wrap64 ((k : Int) + wrap64 ((Lib.len8tab[y.toNat]'h).toNat : Int)) = n := by
  have e : ((Lib.len8tab[y.toNat]'h).toNat : Int) = Lib.len8 y := by
    unfold Lib.len8
    rw [getElem?_pos Lib.len8tab y.toNat h]
    rfl
  rw [Lib.len8tab_size] at h
  have l := Lib.bitLen_le8' y h0 (by omega)
  rw [e, Lib.len8_of y h0 (by omega)]
  unfold wrap64
  omega
theorem len8_c0 (y : Int) (n : Nat) (h : y.toNat < Lib.len8tab.size) (h0 : 0 ≤ y) (hn : n = Lib.bitLen y.toNat) : wrap64 (wrap64 ((Lib.len8tab[y.toNat]'h).toNat : Int)) = n := by
  have := len8_cl 0 y n h h0 (by omega) (by omega)
  simpa using this

set_option maxHeartbeats 4000000 in
set_option maxRecDepth 100000 in
theorem len64_int (x : Int) (w : World) (h0 : 0 ≤ x) (h1 : x ≤ 18446744073709551615) :
    Calls Try.prog 55 #[.int .u64 x] w fun e w' => e = .returned (.int .i64 (Lib.bitLen x.toNat)) ∧ w' = w := by
  go_enter Try.func55, Try.ntmps55
  go_wp2
  all_goals first
    | (go_ret; refine ⟨congrArg Ending.returned (congrArg (Value.int IntKind.i64) ?_), rfl⟩; go_light)
    | (exfalso; go_light; have hs := Lib.len8tab_size; omega)
  all_goals first
    | (have e : (x / 4294967296 / 65536 / 256).toNat = x.toNat / 72057594037927936 := by omega
       have s := Lib.bitLen_shift56 x.toNat (by omega) (by omega)
       exact len8_cl 56 (x / 4294967296 / 65536 / 256) _ _ (by omega) (by decide) (by rw [e]; exact s))
    | (have e : (x / 4294967296 / 65536).toNat = x.toNat / 281474976710656 := by omega
       have s := Lib.bitLen_shift48 x.toNat (by omega) (by omega)
       exact len8_cl 48 (x / 4294967296 / 65536) _ _ (by omega) (by decide) (by rw [e]; exact s))
    | (have e : (x / 4294967296 / 256).toNat = x.toNat / 1099511627776 := by omega
       have s := Lib.bitLen_shift40 x.toNat (by omega) (by omega)
       exact len8_cl 40 (x / 4294967296 / 256) _ _ (by omega) (by decide) (by rw [e]; exact s))
    | (have e : (x / 4294967296).toNat = x.toNat / 4294967296 := by omega
       have s := Lib.bitLen_shift32 x.toNat (by omega) (by omega)
       exact len8_cl 32 (x / 4294967296) _ _ (by omega) (by decide) (by rw [e]; exact s))
    | (have e : (x / 65536 / 256).toNat = x.toNat / 16777216 := by omega
       have s := Lib.bitLen_shift24 x.toNat (by omega) (by omega)
       exact len8_cl 24 (x / 65536 / 256) _ _ (by omega) (by decide) (by rw [e]; exact s))
    | (have e : (x / 65536).toNat = x.toNat / 65536 := by omega
       have s := Lib.bitLen_shift16 x.toNat (by omega) (by omega)
       exact len8_cl 16 (x / 65536) _ _ (by omega) (by decide) (by rw [e]; exact s))
    | (have e : (x / 256).toNat = x.toNat / 256 := by omega
       have s := Lib.bitLen_shift8 x.toNat (by omega) (by omega)
       exact len8_cl 8 (x / 256) _ _ (by omega) (by decide) (by rw [e]; exact s))
    | exact len8_c0 x _ _ (by omega) rfl
    | (have := len8_cl 0 x _ ‹_› (by omega) (by decide) (Nat.zero_add _).symm; simpa using this)
theorem len64_any (x : Nat) (w : World) (h : x < 18446744073709551616) : Calls Try.prog 55 #[.int .u64 (x : Nat)] w (Ret (.int .i64 (Lib.bitLen x : Nat)) w) :=
  (len64_int x w (by omega) (by omega)).mono fun e w' ⟨h1, h2⟩ => ⟨by rw [h1]; simp, h2.symm⟩
end Go.Proofs.Ytpnhnnhocekchaa
namespace Go.Proofs.Ytpnhnnhocekchaa
set_option linter.unusedVariables false
set_option linter.unusedSimpArgs false
open Go.RowKit

set_option maxRecDepth 100000 in
set_option maxHeartbeats 400000 in
theorem size_any (a b : Nat) (w : World) (h : a * b ≤ 4611686018427387904) : Calls Try.prog 53 #[.int .i64 (a : Nat), .int .i64 (b : Nat)] w (Ret (.int .i64 (psz a b : Nat)) w) := by
  have e : (a : Int) * (b : Int) = ((a * b : Nat) : Int) := by simp
  have e2 : (((a * b : Nat) : Int) + 7) / 8 = ((psz a b : Nat) : Int) := by unfold psz; omega
  generalize psz a b = p at e2 ⊢
  generalize a * b = m at h e e2
  go_enter Try.func53, Try.ntmps53
  go_wp2_with (rw [e])
  go_ret
  exact ⟨by rw [← e2]; rfl, rfl⟩

set_option maxRecDepth 100000 in
set_option maxHeartbeats 800000 in
theorem width_any (A : Option Addr) (n c B : Nat) (l : List Nat) (w : World) (hl : l.length = n) (hi : In64 l) (hn : n ≤ c) (hc : c ≤ maxLen) (hr : Rd w B A (nz l)) :
    Calls Try.prog 21 #[.slice A n c] w (Ret (.int .i64 (wid l : Nat)) w) := by
  unfold maxLen at hc
  have HR := hide hr
  have HL := hide hl
  have HI := hide hi
  have HE := hide (fun w => len64_any (orL l) w (orL_64 hi))
  rw [orL_wid hi] at HE
  clear hr hl hi
  go_enter Try.func21, Try.ntmps21
  go_wp2
  go_loop [3, 5, 8] (fun s u i => ∃ k y : Nat, k ≤ n ∧ i = .int .i64 k ∧ s = .int .u64 (y : Nat) ∧ Hid (y = orL (l.take k))) (fun _ _ i => n - (intOf i).toNat)
  case atStart => exact ⟨0, 0, by omega, rfl, rfl, hide rfl⟩
  case round =>
    obtain ⟨k, y, hk, rfl, rfl, HY⟩ := hrel
    by_cases hlt : k < n
    · have h1 : k < l.length := by rw [HL.out]; exact hlt
      obtain ⟨ad, rfl, _, hcell⟩ := HR.out.natAt h1
      have hx := HI.out.at k
      have hy : y < 18446744073709551616 := by rw [HY.out]; exact orL_take HI.out k
      have HS := hide (show y ||| l.getD k 0 = orL (l.take (k + 1)) by rw [take_snocN h1, orL_snoc, HY.out])
      generalize l.getD k 0 = x at hcell hx HS
      have HB := hide (u64_or_nat y x hy hx)
      clear h1
      go_wp2
      go_round
      case rel => exact ⟨k + 1, y ||| x, by omega, by go_num, by rw [HB.out], HS⟩
      case measure => simp [intOf]; omega
    · obtain rfl : k = n := by omega
      have HT := hide (show y = orL l by rw [HY.out, ← HL.out, List.take_length])
      rw [← HT.out] at HE
      clear hlt
      go_wp2_with (go_at_call 55; refine (HE.out _).mono ?_; rintro en w' ⟨rfl, rfl⟩)
      go_ret
      exact ⟨rfl, rfl⟩

/-- is a number beyond so many bits? -/
theorem shr_ne (x k : Nat) : (((x : Int) / 2 ^ k) != 0) = decide (2 ^ k ≤ x) := by
  have e : ((x : Int) / 2 ^ k) = ((x / 2 ^ k : Nat) : Int) := by simp
  rw [e]
  have hp : 0 < 2 ^ k := Nat.two_pow_pos k
  by_cases h : 2 ^ k ≤ x
  · have : x / 2 ^ k ≠ 0 := by
      have := Nat.div_pos h hp
      omega
    rw [decide_eq_true h]
    simp only [bne_iff_ne, ne_eq]
    omega
  · rw [decide_eq_false h, Nat.div_eq_of_lt (by omega)]
    rfl

end Go.Proofs.Ytpnhnnhocekchaa
namespace Go.Proofs.Ytpnhnnhocekchaa
set_option linter.unusedVariables false
set_option linter.unusedSimpArgs false
open Go.RowKit

theorem make_b8 (k : Nat) (hk : k ≤ 140737488355328) (W : World) : (Instr.makeSlice 23 (.int .i64 (k : Nat)) (.int .i64 (k : Nat))).run Try.prog W = .ok (.slice (some ⟨W.heap.size, 0, none⟩) k k) (W.alloc (.cells (madeCells #[.int .u8 0] k) 5)) := by
  obtain ⟨i0, hi, hz, hsz, hby⟩ := info_parts Try.info5
  have h := run_make (P := Try.prog) W 23 5 i0 (.int .u8 0) Try.underlying23 hi hz .i64 .i64 (k : Int) (k : Int) (by omega) (by omega) (by rw [hby]; omega) (by omega)
  rw [Int.toNat_natCast, hsz, Nat.mul_one] at h
  exact h

set_option maxRecDepth 100000 in
set_option maxHeartbeats 400000 in
theorem bits_out (A : Option Addr) (n c : Nat) (wi : Int) (w : World) (h : wi < 1 ∨ 64 < wi) :
    Calls Try.prog 17 #[.slice A n c, .int .i64 wi] w (Ret (.slice none 0 0) w) := by
  by_cases h1 : wi < 1
  · go_enter Try.func17, Try.ntmps17
    go_wp2
    go_ret
    exact ⟨rfl, rfl⟩
  · have h2 : 64 < wi := by omega
    clear h
    go_enter Try.func17, Try.ntmps17
    go_wp2
    go_ret
    exact ⟨rfl, rfl⟩

theorem Own.put {w : World} {base e n c G : Nat} {xs : List Value} (h : Own w base e 1 (.slice (some ⟨G, 0, none⟩) n c) n xs) {k : Nat} (hk : k < n) :
    w.cell? ⟨G, k, none⟩ = xs[k]? ∧ w.frozen? ⟨G, k, none⟩ = false ∧ ∀ v : Value, Own (w.setCell ⟨G, k, none⟩ v) base e 1 (.slice (some ⟨G, 0, none⟩) n c) n (xs.set k v) := by
  obtain ⟨g, e1, h1, h2, h3, h4, h5⟩ := h.store hk
  injection e1 with e1
  injection e1 with e1 _ _
  subst e1
  exact ⟨h3, h4, h5⟩
theorem Fr.putG (w w' : World) (G j : Nat) (v : Value) (h : Fr No w w') (hG : w.heap.size ≤ G) : Fr No w (w'.setCell ⟨G, j, none⟩ v) :=
  h.setCell (p := ⟨G, j, none⟩) (fun hlt => by have : G < w.heap.size := hlt; omega) v

theorem mask_nat (d : Nat) (h : d ≤ 8) : IntKind.u64.wrap (IntKind.u64.wrap (2 ^ d) - 1) = ((2 ^ d - 1 : Nat) : Int) := by
  have : d = 0 ∨ d = 1 ∨ d = 2 ∨ d = 3 ∨ d = 4 ∨ d = 5 ∨ d = 6 ∨ d = 7 ∨ d = 8 := by omega
  rcases this with rfl | rfl | rfl | rfl | rfl | rfl | rfl | rfl | rfl <;> decide
theorem int_shr (x k : Nat) : ((x : Int) / 2 ^ k) = ((x >>> k : Nat) : Int) := by rw [Nat.shiftRight_eq_div_pow]; simp
theorem and_mask_lt (y d : Nat) : y &&& (2 ^ d - 1) < 2 ^ d := by
  rw [Nat.and_two_pow_sub_one_eq_mod]
  exact Nat.mod_lt _ (Nat.two_pow_pos d)
theorem part_val {x q d s old : Nat} (hx : x < 18446744073709551616) (hd : s + d ≤ 8) (ho : old < 256) :
    bits .or .u8 (old : Int) (bits .and .u64 ((x : Int) / 2 ^ q) (IntKind.u64.wrap (IntKind.u64.wrap (2 ^ d) - 1)) % 256 * 2 ^ s % 256) = ((old ||| part x q d s : Nat) : Int) := by
  have hq : x >>> q < 18446744073709551616 := by
    rw [Nat.shiftRight_eq_div_pow]
    exact Nat.lt_of_le_of_lt (Nat.div_le_self _ _) hx
  have hm : 2 ^ d - 1 < 18446744073709551616 := by have : 2 ^ d ≤ 2 ^ 8 := p2 (by omega); omega
  have hlt := and_mask_lt (x >>> q) d
  have h256 : 2 ^ d ≤ 2 ^ 8 := p2 (by omega)
  have hmul : ((x >>> q) &&& (2 ^ d - 1)) * 2 ^ s < 256 := by
    have h1 : ((x >>> q) &&& (2 ^ d - 1)) * 2 ^ s < 2 ^ d * 2 ^ s := Nat.mul_lt_mul_of_pos_right hlt (Nat.two_pow_pos s)
    rw [← Nat.pow_add] at h1
    have h2 : 2 ^ (d + s) ≤ 2 ^ 8 := p2 (by omega)
    omega
  rw [mask_nat d (by omega), int_shr, u64_and_nat _ _ hq hm]
  have e : (((x >>> q &&& (2 ^ d - 1) : Nat) : Int) % 256 * 2 ^ s % 256) = ((part x q d s : Nat) : Int) := by
    have e1 : (((x >>> q &&& (2 ^ d - 1) : Nat) : Int) % 256) = ((x >>> q &&& (2 ^ d - 1) : Nat) : Int) := by omega
    rw [e1]
    have e2 : (((x >>> q &&& (2 ^ d - 1) : Nat) : Int) * 2 ^ s) = (((x >>> q &&& (2 ^ d - 1)) * 2 ^ s : Nat) : Int) := by simp
    rw [e2]
    unfold part
    rw [Nat.shiftLeft_eq]
    omega
  rw [e]
  exact u8_or_nat _ _ ho (part_lt (n := 8) hd)
theorem bits_set {wd j q d m t x old s8 q8 : Nat} {l : List Nat} (ht : t = wd * j + q) (hs : s8 = t % 8) (hq8 : q8 = t / 8) (hX : l.getD j 0 = x) (hO : old = pby (pbit wd l) t q8) (hq : q + d ≤ wd) (hd : s8 + d ≤ 8) :
    (by8 (pbys (pbit wd l) t m)).set q8 (.int .u8 ((old ||| part x q d s8 : Nat) : Int)) = by8 (pbys (pbit wd l) (t + d) m) := by
  subst hO; subst hX; subst hs; subst hq8
  rw [← pbys_set (f := pbit wd l) (t := t) (t' := t + d) (by omega) (by omega)]
  subst ht
  rw [pack_step l hq hd]

set_option maxRecDepth 100000 in
set_option maxHeartbeats 2000000 in
theorem bits_in (A : Option Addr) (n c B wd : Nat) (l : List Nat) (w : World) (hl : l.length = n) (hi : In64 l) (hn : n ≤ c) (hc : c ≤ maxLen) (hb : n ≤ 1099511627776) (hw1 : 1 ≤ wd) (hw2 : wd ≤ 64) (hB : B ≤ w.heap.size) (hr : Rd w B A (nz l)) :
    Calls Try.prog 17 #[.slice A n c, .int .i64 (wd : Nat)] w (GivesB w (packed wd l)) := by
  unfold maxLen at hc
  have HR := hide hr
  have HL := hide hl
  have HI := hide hi
  have hwn : wd * n ≤ 64 * n := Nat.mul_le_mul_right _ hw2
  have HZ := hide (fun w => size_any wd n w (by omega))
  obtain ⟨m, hm⟩ : ∃ m, m = psz wd n := ⟨_, rfl⟩
  have hm8 : wd * n ≤ 8 * m := by rw [hm]; unfold psz; omega
  have hmb : m ≤ 140737488355328 := by rw [hm]; unfold psz; omega
  rw [← hm] at HZ
  have HM := hide hm
  have hmk := make_b8 m hmb
  have HO := hide (made_own w m 5 (.int .u8 0) _ rfl (by unfold maxLen; omega))
  rw [← pbys_none (pbit wd l)] at HO
  generalize madeCells #[Value.int .u8 0] m = z at hmk HO
  clear hr hl hi hm
  go_enter Try.func17, Try.ntmps17
  go_wp2_with (go_at_call 53; refine (HZ.out _).mono ?_; rintro en w' ⟨rfl, rfl⟩)
  have hF0 : Fr No w (w.alloc (.cells z 5)) := (Fr.refl No w).alloc _
  go_loopw [6, 8, 9, 10, 11, 25] (fun at_ x k fr tk i wr => ∃ j : Nat, j ≤ n ∧ i = .int .i64 j ∧ at_ = .int .i64 ((wd * j : Nat) : Int) ∧ Hid (Own wr w.heap.size 5 1 (.slice (some ⟨w.heap.size, 0, none⟩) m m) m (by8 (pbys (pbit wd l) (wd * j) m))) ∧ Hid (Fr No w wr)) (fun _ _ _ _ _ i _ => n - (intOf i).toNat)
  case atStart => exact ⟨0, by omega, rfl, rfl, HO, hide hF0⟩
  case round =>
    obtain ⟨j, hj, rfl, rfl, HOw, HFr⟩ := hrel
    by_cases hlt : j < n
    · have h1 : j < l.length := by rw [HL.out]; exact hlt
      obtain ⟨ad, rfl, _, hcell⟩ := (HR.out.fr0 HFr.out).natAt h1
      have hx := HI.out.at j
      clear h1
      generalize hxx : l.getD j 0 = x at hcell hx
      have HX := hide hxx
      have hT1 : wd * (j + 1) ≤ wd * n := Nat.mul_le_mul_left _ hlt
      have hT2 : wd * (j + 1) = wd * j + wd := by rw [Nat.mul_add, Nat.mul_one]
      obtain ⟨T, hT⟩ : ∃ T, T = wd * j := ⟨_, rfl⟩
      rw [← hT] at HOw hT2
      have HT := hide hT
      have HT2 := hide hT2
      have hTm : T + wd ≤ 8 * m := by omega
      clear hT1 hxx hT hT2
      rw [← HT.out]
      go_wp2
      go_loopw [6, 9, 10, 11] (fun at_ k fr tk wx => ∃ q t : Nat, q ≤ wd ∧ t = T + q ∧ k = .int .i64 (q : Nat) ∧ at_ = .int .i64 (t : Nat) ∧ Hid (Own wx w.heap.size 5 1 (.slice (some ⟨w.heap.size, 0, none⟩) m m) m (by8 (pbys (pbit wd l) t m))) ∧ Hid (Fr No w wx)) (fun _ k _ _ _ => wd - (intOf k).toNat)
      case atStart => exact ⟨0, T, by omega, rfl, rfl, rfl, HOw, HFr⟩
      case round =>
        clear HOw HFr
        obtain ⟨q, t, hq, ht, rfl, rfl, HOw, HFr⟩ := hrel
        by_cases hlt2 : q < wd
        · have htm : t ≤ 1125899906842624 := by omega
          obtain ⟨s8, hs8⟩ : ∃ s, s = t % 8 := ⟨_, rfl⟩
          obtain ⟨q8, hq8⟩ : ∃ s, s = t / 8 := ⟨_, rfl⟩
          have e1 : (t : Int) % 8 = (s8 : Int) := by omega
          have e2 : (t : Int) / 8 = (q8 : Int) := by omega
          have hqm : q8 < m := by omega
          obtain ⟨hc1, hf1, hput⟩ := HOw.out.put (k := q8) (by omega)
          rw [pbys_cell hqm] at hc1
          have HPut := hide hput
          obtain ⟨a, ha⟩ : ∃ a, a = 8 - s8 := ⟨_, rfl⟩
          obtain ⟨b, hb⟩ : ∃ b, b = wd - q := ⟨_, rfl⟩
          have e3 : (8 : Int) - (s8 : Int) = (a : Int) := by omega
          have e4 : (wd : Int) - (q : Int) = (b : Int) := by omega
          have hs88 : s8 ≤ 7 := by omega
          have ha8 : 1 ≤ a ∧ a ≤ 8 := by omega
          have hb64 : 1 ≤ b ∧ b ≤ 64 := by omega
          have HS8 := hide hs8
          have HQ8 := hide hq8
          have HAA := hide ha
          have HBB := hide hb
          have HTT := hide ht
          clear hput hs8 hq8 ha hb ht
          have hp8 := pby_lt (pbit wd l) t q8
          obtain ⟨old, hold⟩ : ∃ o, o = pby (pbit wd l) t q8 := ⟨_, rfl⟩
          rw [← hold] at hc1 hp8
          have HOld := hide hold
          clear hold
          by_cases hab : a ≤ b
          · have HV := hide (part_val (q := q) (d := a) (s := s8) hx (by omega) hp8)
            have HE := hide (fun h1 h2 => bits_set (m := m) (d := a) (HTT.out.trans (by rw [HT.out])) HS8.out HQ8.out HX.out HOld.out h1 h2)
            have HQD : Hid (q + a ≤ wd) := hide (by omega)
            have HSD : Hid (s8 + a ≤ 8) := hide (by have := HAA.out; omega)
            go_wp2_with (fail)
            go_region
            go_wp2
            go_roundw
            case rel =>
              refine ⟨q + a, t + a, HQD.out, by rw [HTT.out]; omega, by go_num, by go_num, hide ?_, hide (Fr.putG _ _ _ _ _ HFr.out (Nat.le_refl _)).drew⟩
              rw [HV.out, ← HE.out HQD.out HSD.out]
              exact (HPut.out _).fr0 ((Fr.refl No _).drew)
            case measure => simp [intOf]; omega
          · have HV := hide (part_val (q := q) (d := b) (s := s8) hx (by omega) hp8)
            have HE := hide (fun h1 h2 => bits_set (m := m) (d := b) (HTT.out.trans (by rw [HT.out])) HS8.out HQ8.out HX.out HOld.out h1 h2)
            have HQD : Hid (q + b ≤ wd) := hide (by omega)
            have HSD : Hid (s8 + b ≤ 8) := hide (by have := HAA.out; omega)
            have hba : b < a := by omega
            clear hab
            go_wp2_with (fail)
            go_region
            go_wp2
            go_roundw
            case rel =>
              refine ⟨q + b, t + b, HQD.out, by rw [HTT.out]; omega, by go_num, by go_num, hide ?_, hide (Fr.putG _ _ _ _ _ HFr.out (Nat.le_refl _)).drew⟩
              rw [HV.out, ← HE.out HQD.out HSD.out]
              exact (HPut.out _).fr0 ((Fr.refl No _).drew)
            case measure => simp [intOf]; omega
        · have HN : Hid (t = wd * (j + 1)) := hide (by rw [HT2.out]; omega)
          clear ht
          go_wp2
          go_roundw
          case rel => exact ⟨j + 1, by omega, by go_num, by rw [HN.out], by rw [← HN.out]; exact HOw, HFr⟩
          case measure => simp [intOf]; omega
    · obtain rfl : j = n := by omega
      go_wp2
      go_ret
      refine ⟨_, rfl, ?_, HFr.out⟩
      have h := HOw.out
      unfold packed
      rw [pbys_len, HL.out, ← HM.out]
      exact h
end Go.Proofs.Ytpnhnnhocekchaa
namespace Go.Proofs.Ytpnhnnhocekchaa
set_option linter.unusedVariables false
set_option linter.unusedSimpArgs false
open Go.RowKit

theorem make_u64 (k : Nat) (hk : k ≤ 1048576) (W : World) : (Instr.makeSlice 22 (.int .i64 (k : Nat)) (.int .i64 (k : Nat))).run Try.prog W = .ok (.slice (some ⟨W.heap.size, 0, none⟩) k k) (W.alloc (.cells (madeCells #[.int .u64 0] k) 52)) := by
  obtain ⟨i0, hi, hz, hsz, hby⟩ := info_parts Try.infoKU64
  have h := run_make (P := Try.prog) W 22 52 i0 (.int .u64 0) Try.underlying22 hi hz .i64 .i64 (k : Int) (k : Int) (by omega) (by omega) (by rw [hby]; omega) (by omega)
  rw [Int.toNat_natCast, hsz, Nat.mul_one] at h
  exact h

set_option maxRecDepth 100000 in
set_option maxHeartbeats 400000 in
theorem unb_arg (A : Option Addr) (n c : Nat) (wi ni : Int) (w : World) (h : wi < 0 ∨ 64 < wi ∨ ni < 0 ∨ 1048576 < ni) :
    Calls Try.prog 19 #[.slice A n c, .int .i64 wi, .int .i64 ni] w (Ret (.tuple #[.slice none 0 0, .int .i64 1]) w) := by
  by_cases h1 : wi < 0
  · clear h
    go_enter Try.func19, Try.ntmps19
    go_wp2
    go_step3
    go_wp2
    try rw [Exit.noGoto_ret]
    go_ret2
    exact ⟨rfl, rfl⟩
  · by_cases h2 : 64 < wi
    · clear h
      go_enter Try.func19, Try.ntmps19
      go_wp2
      go_step3
      go_wp2
      try rw [Exit.noGoto_ret]
      go_ret2
      exact ⟨rfl, rfl⟩
    · by_cases h3 : ni < 0
      · clear h
        go_enter Try.func19, Try.ntmps19
        go_wp2
        go_step3
        go_wp2
        try rw [Exit.noGoto_ret]
        go_ret2
        exact ⟨rfl, rfl⟩
      · have h4 : 1048576 < ni := by omega
        clear h
        go_enter Try.func19, Try.ntmps19
        go_wp2
        go_step3
        go_wp2
        try rw [Exit.noGoto_ret]
        go_ret2
        exact ⟨rfl, rfl⟩

set_option maxRecDepth 100000 in
set_option maxHeartbeats 400000 in
theorem unb_len (A : Option Addr) (m c wd n : Nat) (w : World) (hw : wd ≤ 64) (hn : n ≤ 1048576) (h : m ≠ psz wd n) :
    Calls Try.prog 19 #[.slice A m c, .int .i64 (wd : Nat), .int .i64 (n : Nat)] w (Ret (.tuple #[.slice none 0 0, .int .i64 20]) w) := by
  have hwn : wd * n ≤ 64 * n := Nat.mul_le_mul_right _ hw
  have HZ := hide (fun w => size_any wd n w (by omega))
  generalize psz wd n = p at h HZ
  have hb : ((m : Int) != (p : Int)) = true := by simp; omega
  clear h
  go_enter Try.func19, Try.ntmps19
  go_wp2
  go_step3
  go_wp2_with (go_at_call 53; refine (HZ.out _).mono ?_; rintro en w' ⟨rfl, rfl⟩)
  try rw [Exit.noGoto_ret]
  go_ret2
  exact ⟨rfl, rfl⟩

/-- numbers of a call's own, or refused. -/
def GivesUnb (r : List Nat × Int) (w : World) (en : Ending) (w' : World) : Prop :=
  ∃ v, en = .returned (.tuple #[v, .int .i64 r.2]) ∧ Own w' w.heap.size 52 1 v r.1.length (nz r.1) ∧ Fr No w w'

theorem mask8_nat (d : Nat) (h : d ≤ 8) : ((2 : Int) ^ d - 1) % 256 = ((2 ^ d - 1 : Nat) : Int) := by
  have : d = 0 ∨ d = 1 ∨ d = 2 ∨ d = 3 ∨ d = 4 ∨ d = 5 ∨ d = 6 ∨ d = 7 ∨ d = 8 := by omega
  rcases this with rfl | rfl | rfl | rfl | rfl | rfl | rfl | rfl | rfl <;> decide
theorem upart_val {y q d s old : Nat} (hy : y < 256) (hd : d ≤ 8) (hq : q + d ≤ 64) (ho : old < 18446744073709551616) :
    bits .or .u64 (old : Int) (IntKind.u64.wrap (IntKind.u64.wrap (bits .and .u8 ((y : Int) / 2 ^ s) (((2 : Int) ^ d - 1) % 256)) * 2 ^ q)) = ((old ||| part y s d q : Nat) : Int) := by
  have hs : y >>> s < 256 := by
    rw [Nat.shiftRight_eq_div_pow]
    exact Nat.lt_of_le_of_lt (Nat.div_le_self _ _) hy
  have hm : 2 ^ d - 1 < 256 := by have : 2 ^ d ≤ 2 ^ 8 := p2 (by omega); omega
  have hlt := and_mask_lt (y >>> s) d
  have hmul : ((y >>> s) &&& (2 ^ d - 1)) * 2 ^ q < 18446744073709551616 := by
    have h1 : ((y >>> s) &&& (2 ^ d - 1)) * 2 ^ q < 2 ^ d * 2 ^ q := Nat.mul_lt_mul_of_pos_right hlt (Nat.two_pow_pos q)
    rw [← Nat.pow_add] at h1
    have h2 : 2 ^ (d + q) ≤ 2 ^ 64 := p2 (by omega)
    omega
  rw [mask8_nat d hd, int_shr, u8_and_nat _ _ hs hm]
  have e1 : IntKind.u64.wrap ((y >>> s &&& (2 ^ d - 1) : Nat) : Int) = ((y >>> s &&& (2 ^ d - 1) : Nat) : Int) := by
    rw [IntKind.wrap_u64]
    have : 2 ^ d ≤ 2 ^ 8 := p2 (by omega)
    omega
  rw [e1]
  have e2 : (((y >>> s &&& (2 ^ d - 1) : Nat) : Int) * 2 ^ q) = (((y >>> s &&& (2 ^ d - 1)) * 2 ^ q : Nat) : Int) := by simp
  rw [e2]
  have e3 : IntKind.u64.wrap (((y >>> s &&& (2 ^ d - 1)) * 2 ^ q : Nat) : Int) = ((part y s d q : Nat) : Int) := by
    rw [IntKind.wrap_u64]
    unfold part
    rw [Nat.shiftLeft_eq]
    omega
  rw [e3]
  exact u64_or_nat _ _ ho (part_lt (n := 64) hq)
theorem unb_set {wd j q d n t y old s8 q8 : Nat} {b : List UInt8} (hj : j < n) (ht : t = wd * j + q) (hs : s8 = t % 8) (hq8 : q8 = t / 8) (hY : y = (b.getD q8 0).toNat) (hO : old = unum wd b t j) (hq : q + d ≤ wd) (hd : s8 + d ≤ 8) :
    (nz (unums wd b t n)).set j (.int .u64 ((old ||| part y s8 d q : Nat) : Int)) = nz (unums wd b (t + d) n) := by
  subst hO; subst hY; subst hs; subst hq8; subst ht
  rw [nz_set, unpack_step b hq hd, unums_set hq hj]

set_option maxRecDepth 100000 in
set_option maxHeartbeats 2000000 in
theorem unb_in (A : Option Addr) (m c B wd n : Nat) (b : List UInt8) (w : World) (hl : b.length = m) (hm : m = psz wd n) (hc1 : m ≤ c) (hc : c ≤ maxLen) (hn : n ≤ 1048576) (hw : wd ≤ 64) (hB : B ≤ w.heap.size) (hr : Rd w B A (by8 b)) :
    Calls Try.prog 19 #[.slice A m c, .int .i64 (wd : Nat), .int .i64 (n : Nat)] w (GivesUnb (if leftN b (wd * n) = 0 then (unpacked wd n b, 0) else ([], 20)) w) := by
  obtain ⟨r, hres⟩ : ∃ r, r = (if leftN b (wd * n) = 0 then (unpacked wd n b, 0) else ([], 20) : List Nat × Int) := ⟨_, rfl⟩
  rw [← hres]
  have HRes := hide hres
  clear hres
  unfold maxLen at hc
  have HR := hide hr
  have HL := hide hl
  have hwn : wd * n ≤ 64 * n := Nat.mul_le_mul_right _ hw
  have HZ := hide (fun w => size_any wd n w (by omega))
  rw [← hm] at HZ
  have hm8 : wd * n ≤ 8 * m := by rw [hm]; unfold psz; omega
  have hmb : m ≤ 8388608 := by rw [hm]; unfold psz; omega
  have HM := hide hm
  have hmk := make_u64 n hn
  have HO := hide (made_own w n 52 (.int .u64 0) _ rfl (by unfold maxLen; omega))
  rw [← nz_rep, ← unums_none wd b n] at HO
  generalize madeCells #[Value.int .u64 0] n = z at hmk HO
  have hb0 : ((m : Int) != (m : Int)) = false := by simp
  clear hr hl hm
  go_enter Try.func19, Try.ntmps19
  go_wp2
  go_step3
  go_wp2_with (go_at_call 53; refine (HZ.out _).mono ?_; rintro en w' ⟨rfl, rfl⟩)
  go_step3
  go_wp2
  have hF0 : Fr No w (w.alloc (.cells z 52)) := (Fr.refl No w).alloc _
  go_loopg [9, 10, 11, 12, 39] n (fun gk at_ i k tk ix wr => ∃ j : Nat, j + gk = n ∧ ix = .int .i64 j ∧ at_ = .int .i64 ((wd * j : Nat) : Int) ∧ Hid (Own wr w.heap.size 52 1 (.slice (some ⟨w.heap.size, 0, none⟩) n n) n (nz (unums wd b (wd * j) n))) ∧ Hid (Fr No w wr))
  case atStart => exact ⟨0, by omega, rfl, rfl, HO, hide hF0⟩
  case round =>
    obtain ⟨j, hj, rfl, rfl, HOw, HFr⟩ := hrel
    by_cases hlt : j < n
    · have hT1 : wd * (j + 1) ≤ wd * n := Nat.mul_le_mul_left _ hlt
      have hT2 : wd * (j + 1) = wd * j + wd := by rw [Nat.mul_add, Nat.mul_one]
      obtain ⟨T, hT⟩ : ∃ T, T = wd * j := ⟨_, rfl⟩
      rw [← hT] at HOw hT2
      have HT := hide hT
      have HT2 := hide hT2
      have hTm : T + wd ≤ 8 * m := by omega
      obtain ⟨g', rfl⟩ : ∃ g', gk = g' + 1 := ⟨gk - 1, by omega⟩
      have HJ := hide hj
      have hjn : j ≤ 1048576 := by omega
      clear hT1 hT hT2 hj
      rw [← HT.out]
      go_wp2
      go_loopg [9, 11, 12] wd (fun g2 at_ k tk wx => ∃ q t : Nat, Hid (q + g2 = wd) ∧ q ≤ wd ∧ Hid (t = T + q) ∧ k = .int .i64 (q : Nat) ∧ at_ = .int .i64 (t : Nat) ∧ Hid (Own wx w.heap.size 52 1 (.slice (some ⟨w.heap.size, 0, none⟩) n n) n (nz (unums wd b t n))) ∧ Hid (Fr No w wx))
      case atStart => exact ⟨0, T, hide (by omega), by omega, hide rfl, rfl, rfl, HOw, HFr⟩
      case round =>
        clear HOw HFr
        obtain ⟨q, t, HG, hq, HTT, rfl, rfl, HOw, HFr⟩ := hrel
        by_cases hlt2 : q < wd
        · have htm : t ≤ 67108864 := by have := HTT.out; omega
          obtain ⟨s8, hs8⟩ : ∃ s, s = t % 8 := ⟨_, rfl⟩
          obtain ⟨q8, hq8⟩ : ∃ s, s = t / 8 := ⟨_, rfl⟩
          have e1 : (t : Int) % 8 = (s8 : Int) := by omega
          have e2 : (t : Int) / 8 = (q8 : Int) := by omega
          have hqm : q8 < m := by have := HTT.out; omega
          obtain ⟨ad, rfl, _, hcb⟩ := (HR.out.fr0 HFr.out).byte (k := q8) (by rw [HL.out]; exact hqm)
          obtain ⟨hco, hf1, hput⟩ := HOw.out.put (k := j) hlt
          rw [nz_at _ (by rw [unums_len]; exact hlt)] at hco
          have hun : (unums wd b t n).getD j 0 = unum wd b t j := by rw [List.getD_eq_getElem?_getD, unums_at hlt]; rfl
          rw [hun] at hco
          have HPut := hide hput
          obtain ⟨a, ha⟩ : ∃ a, a = 8 - s8 := ⟨_, rfl⟩
          obtain ⟨b', hb⟩ : ∃ b, b = wd - q := ⟨_, rfl⟩
          have e3 : (8 : Int) - (s8 : Int) = (a : Int) := by omega
          have e4 : (wd : Int) - (q : Int) = (b' : Int) := by omega
          have hs88 : s8 ≤ 7 := by omega
          have ha8 : 1 ≤ a ∧ a ≤ 8 := by omega
          have hb64 : 1 ≤ b' ∧ b' ≤ 64 := by omega
          have HS8 := hide hs8
          have HQ8 := hide hq8
          have HAA := hide ha
          have HBB := hide hb
          clear hput hs8 hq8 ha hb hun
          have ho8 := unum_lt64 hw b t j
          obtain ⟨old, hold⟩ : ∃ o, o = unum wd b t j := ⟨_, rfl⟩
          rw [← hold] at hco ho8
          have HOld := hide hold
          have hy := (b.getD q8 0).toNat_lt
          obtain ⟨y, hyy⟩ : ∃ y, y = (b.getD q8 0).toNat := ⟨_, rfl⟩
          rw [← hyy] at hcb hy
          have HY := hide hyy
          clear hold hyy
          have hqb : ((q : Int) == (wd : Int)) = false := by simp; omega
          by_cases hab : a ≤ b'
          · have HV := hide (upart_val (q := q) (d := a) (s := s8) hy (by omega) (by omega) ho8)
            have HE := hide (fun h1 h2 => unb_set (n := n) (d := a) hlt (HTT.out.trans (by rw [HT.out])) HS8.out HQ8.out HY.out HOld.out h1 h2)
            have HQD : Hid (q + a ≤ wd) := hide (by have := HBB.out; omega)
            have HSD : Hid (s8 + a ≤ 8) := hide (by have := HAA.out; omega)
            have hd1 : 1 ≤ a := by omega
            go_wp2_with (fail)
            go_region
            go_wp2
            go_roundg (gk - a)
            case measure => have := HG.out; omega
            case rel =>
              refine ⟨q + a, t + a, hide (by have := HG.out; have := HQD.out; omega), HQD.out, hide (by rw [HTT.out]; omega), by go_num, by go_num, hide ?_, hide (Fr.putG _ _ _ _ _ HFr.out (Nat.le_refl _)).drew⟩
              rw [HV.out, ← HE.out HQD.out HSD.out]
              exact (HPut.out _).fr0 ((Fr.refl No _).drew)
          · have HV := hide (upart_val (q := q) (d := b') (s := s8) hy (by omega) (by omega) ho8)
            have HE := hide (fun h1 h2 => unb_set (n := n) (d := b') hlt (HTT.out.trans (by rw [HT.out])) HS8.out HQ8.out HY.out HOld.out h1 h2)
            have HQD : Hid (q + b' ≤ wd) := hide (by have := HBB.out; omega)
            have HSD : Hid (s8 + b' ≤ 8) := hide (by have := HAA.out; omega)
            have hba : b' < a := by omega
            clear hab
            have hd1 : 1 ≤ b' := by omega
            go_wp2_with (fail)
            go_region
            go_wp2
            go_roundg (gk - b')
            case measure => have := HG.out; omega
            case rel =>
              refine ⟨q + b', t + b', hide (by have := HG.out; have := HQD.out; omega), HQD.out, hide (by rw [HTT.out]; omega), by go_num, by go_num, hide ?_, hide (Fr.putG _ _ _ _ _ HFr.out (Nat.le_refl _)).drew⟩
              rw [HV.out, ← HE.out HQD.out HSD.out]
              exact (HPut.out _).fr0 ((Fr.refl No _).drew)
        · obtain rfl : q = wd := by omega
          have HN : Hid (t = q * (j + 1)) := hide (by rw [HT2.out, HTT.out])
          have hqb : ((q : Int) == (q : Int)) = true := by simp
          go_wp2
          go_roundg g'
          case measure => omega
          case rel => exact ⟨j + 1, by have := HJ.out; omega, by go_num, by rw [HN.out], hide (by rw [← HN.out]; exact HOw.out), HFr⟩
    · obtain rfl : j = n := by omega
      obtain ⟨t, ht⟩ : ∃ t, t = wd * j := ⟨_, rfl⟩
      have HT := hide ht
      rw [← ht] at HOw HRes hm8 ⊢
      have hz2 := HOw.out
      by_cases h0 : t % 8 = 0
      · have e1 : (t : Int) % 8 = 0 := by omega
        have HF := hide (show r = (unpacked wd j b, 0) by rw [HRes.out, if_pos (by unfold leftN; rw [if_pos h0])])
        clear h0 ht hz2 HRes
        go_wp2
        try rw [Exit.noGoto_ret]
        go_ret2
        rw [HF.out]
        refine ⟨_, rfl, ?_, HFr.out⟩
        unfold unpacked
        rw [unums_len, ← HT.out]
        exact HOw.out
      · obtain ⟨s8, hs8⟩ : ∃ s, s = t % 8 := ⟨_, rfl⟩
        obtain ⟨q8, hq8⟩ : ∃ s, s = t / 8 := ⟨_, rfl⟩
        have e1 : (t : Int) % 8 = (s8 : Int) := by omega
        have e2 : (t : Int) / 8 = (q8 : Int) := by omega
        have hqm : q8 < m := by rw [HM.out]; unfold psz; omega
        have hs1 : 1 ≤ s8 := by omega
        have hs7 : s8 ≤ 7 := by omega
        obtain ⟨ad, rfl, _, hcb⟩ := (HR.out.fr0 HFr.out).byte (k := q8) (by rw [HL.out]; exact hqm)
        have HLf := hide (show leftN b t = (b.getD q8 0).toNat >>> s8 by unfold leftN; rw [if_neg h0, hs8, hq8])
        have hy := (b.getD q8 0).toNat_lt
        obtain ⟨y, hyy⟩ : ∃ y, y = (b.getD q8 0).toNat := ⟨_, rfl⟩
        rw [← hyy] at hcb hy HLf
        have e5 := int_shr y s8
        clear hyy h0 hs8 hq8 ht hz2
        by_cases hz : y >>> s8 = 0
        · have hb2 : (((y >>> s8 : Nat) : Int) != 0) = false := by rw [hz]; rfl
          have HF := hide (show r = (unpacked wd j b, 0) by rw [HRes.out, HLf.out, if_pos hz])
          clear hz HRes HLf
          generalize y >>> s8 = x at e5 hb2
          go_wp2
          try rw [Exit.noGoto_ret]
          go_ret2
          rw [HF.out]
          refine ⟨_, rfl, ?_, HFr.out⟩
          unfold unpacked
          rw [unums_len, ← HT.out]
          exact HOw.out
        · have hb2 : (((y >>> s8 : Nat) : Int) != 0) = true := by simp only [bne_iff_ne, ne_eq]; omega
          have HF := hide (show r = ([], 20) by rw [HRes.out, HLf.out, if_neg hz])
          clear hz HRes HLf
          generalize y >>> s8 = x at e5 hb2
          go_wp2
          try rw [Exit.noGoto_ret]
          go_ret2
          rw [HF.out]
          exact ⟨_, rfl, Own.nil _ _ _ _, HFr.out⟩

/-- Unbits at whatever numbers. -/
theorem unb_any (A : Option Addr) (m c B : Nat) (wi ni : Int) (b : List UInt8) (w : World) (hl : b.length = m) (hc1 : m ≤ c) (hc : c ≤ maxLen) (hB : B ≤ w.heap.size) (hr : Rd w B A (by8 b)) :
    Calls Try.prog 19 #[.slice A m c, .int .i64 wi, .int .i64 ni] w (GivesUnb (unbitsZ b wi ni) w) := by
  unfold unbitsZ
  by_cases h : wi < 0 ∨ 64 < wi ∨ ni < 0 ∨ 1048576 < ni
  · rw [if_pos h]
    exact (unb_arg A m c wi ni w h).mono fun e w' ⟨h1, h2⟩ => ⟨_, h1, Own.nil _ _ _ _, h2 ▸ Fr.refl _ _⟩
  · rw [if_neg h]
    obtain ⟨wd, rfl⟩ := Int.eq_ofNat_of_zero_le (a := wi) (by omega)
    obtain ⟨n, rfl⟩ := Int.eq_ofNat_of_zero_le (a := ni) (by omega)
    rw [Int.toNat_natCast, Int.toNat_natCast]
    by_cases h2 : m = psz wd n
    · have h3 := unb_in A m c B wd n b w hl h2 hc1 hc (by omega) (by omega) hB hr
      by_cases h4 : leftN b (wd * n) = 0
      · rw [if_pos h4] at h3
        rw [if_neg (by rw [hl]; exact fun h => h.elim (fun h => h h2) (fun h => h h4))]
        exact h3
      · rw [if_neg h4] at h3
        rw [if_pos (.inr h4)]
        exact h3
    · rw [if_pos (.inl (by rw [hl]; exact h2))]
      exact (unb_len A m c wd n w (by omega) (by omega) h2).mono fun e w' ⟨h1, h2⟩ => ⟨_, h1, Own.nil _ _ _ _, h2 ▸ Fr.refl _ _⟩
/-- Bits at whatever width. -/
theorem bits_any (A : Option Addr) (n c B : Nat) (wi : Int) (l : List Nat) (w : World) (hl : l.length = n) (hi : In64 l) (hn : n ≤ c) (hc : c ≤ maxLen) (hb : n ≤ 1099511627776) (hB : B ≤ w.heap.size) (hr : Rd w B A (nz l)) :
    Calls Try.prog 17 #[.slice A n c, .int .i64 wi] w (GivesB w (bitsZ l wi)) := by
  unfold bitsZ
  by_cases h : wi < 1 ∨ 64 < wi
  · have e : (if 0 ≤ wi ∧ wi ≤ 64 then packed wi.toNat l else []) = [] := by
      split
      · have : wi = 0 := by omega
        rw [this]
        exact packed_0 l
      · rfl
    rw [e]
    exact (bits_out A n c wi w h).mono fun e w' ⟨h1, h2⟩ => ⟨_, h1, Own.nil _ _ _ _, h2 ▸ Fr.refl _ _⟩
  · rw [if_pos (by omega)]
    obtain ⟨wd, rfl⟩ := Int.eq_ofNat_of_zero_le (a := wi) (by omega)
    rw [Int.toNat_natCast]
    exact bits_in A n c B wd l w hl hi hn hc hb (by omega) (by omega) hB hr
end Go.Proofs.Ytpnhnnhocekchaa
namespace Go.Proofs.Ytpnhnnhocekchaa
set_option linter.unusedVariables false
set_option linter.unusedSimpArgs false
open Go.RowKit

/-- a store into a cell of a row of the call's own. -/
theorem Own.storeN {w : World} {base e size n c : Nat} {A : Option Addr} {xs : List Value} (h : Own w base e size (.slice A n c) n xs) {k : Nat} (hk : k < n * size) :
    ∃ g, A = some ⟨g, 0, none⟩ ∧ base ≤ g ∧ g < w.heap.size ∧ (Value.slice A n c).ownBlock = some g ∧ (∀ j, j < n * size → w.cell? ⟨g, j, none⟩ = xs[j]?) ∧ (∀ j, w.frozen? ⟨g, j, none⟩ = false) ∧
      ∀ v : Value, Own (w.setCell ⟨g, k, none⟩ v) base e size (.slice A n c) n (xs.set k v) := by
  obtain ⟨hl, A', c', hv, hn, hm, hA⟩ := h
  injection hv with h1 h2 h3
  subst h1; subst h3
  rcases hA with ⟨rfl, rfl⟩ | ⟨g, cur, rfl, hb, hh, hcs, ht⟩
  · obtain rfl : n = 0 := by omega
    omega
  · have hle : n * size ≤ c * size := Nat.mul_le_mul_right _ hn
    refine ⟨g, rfl, hb, (Array.getElem?_eq_some_iff.1 hh).1, rfl, fun j hj => ?_, fun j => by simp [World.frozen?, hh], ?_⟩
    · rw [cell_of_row w g j cur e (0, 0) hh, ← ht, List.getElem?_take, if_pos hj]
      simp
    · intro v
      refine ⟨by rw [List.length_set]; exact hl, _, c, rfl, hn, hm, .inr ⟨g, cur.set! k v, rfl, hb, ?_, by simpa using hcs, ?_⟩⟩
      · simp [World.setCell, Array.getElem?_modify, hh]
      · rw [← ht]
        simp only [Array.set!_eq_setIfInBounds, Array.toList_setIfInBounds]
        rw [List.take_set]

structure ChL where
  f : Nat
  t : Nat
  b : List UInt8
  A : Option Addr
  c : Nat
def bVal (p : ChL) : Value := .slice p.A p.b.length p.c
def cRow (p : ChL) : List Value := [.int .i64 (p.f : Nat), .int .i64 (p.t : Nat), bVal p]
def cFlat (l : List ChL) : List Value := l.flatMap cRow
theorem cFlat_snoc (l : List ChL) (p : ChL) : cFlat (l ++ [p]) = cFlat l ++ cRow p := by simp [cFlat, List.flatMap_append]
theorem cFlat_len (l : List ChL) : (cFlat l).length = l.length * 3 := by
  induction l with
  | nil => rfl
  | cons p r ih =>
    have e : cFlat (p :: r) = cRow p ++ cFlat r := rfl
    rw [e, List.length_append, ih, List.length_cons]
    show 3 + r.length * 3 = _
    omega
theorem cFlat_at {l : List ChL} {k j : Nat} (hk : k < l.length) (hj : j < 3) : (cFlat l)[k * 3 + j]? = (cRow l[k])[j]? := by
  induction l generalizing k with
  | nil => simp at hk
  | cons p r ih =>
    have e : cFlat (p :: r) = cRow p ++ cFlat r := rfl
    have e3 : (cRow p).length = 3 := rfl
    rw [e]
    cases k with
    | zero =>
      rw [List.getElem?_append_left (by rw [e3]; omega), Nat.zero_mul, Nat.zero_add]
      rfl
    | succ k =>
      rw [List.getElem?_append_right (by rw [e3]; omega), e3, show (k + 1) * 3 + j - 3 = k * 3 + j by omega, ih (by simpa using hk)]
      rfl
structure OwnC (w : World) (base : Nat) (v : Value) (n : Nat) (ps : List ChL) : Prop where
  row : Own w base 106 3 v n (cFlat ps)
  bs : ∀ p ∈ ps, Own w base 5 1 (bVal p) p.b.length (by8 p.b)
  ap : ps.Pairwise (fun p q => ∀ k, (bVal p).ownBlock = some k → (bVal q).ownBlock ≠ some k)
theorem OwnC.len {w : World} {base n : Nat} {v : Value} {ps : List ChL} (h : OwnC w base v n ps) : ps.length = n := by
  have h1 := h.row.1
  rw [cFlat_len] at h1
  omega
theorem OwnC.off {S : Nat → Prop} {w w' : World} {base n : Nat} {v : Value} {ps : List ChL} (h : OwnC w base v n ps) (f : Fr S w w') (h1 : Off S w 106) (h2 : Off S w 5) : OwnC w' base v n ps :=
  ⟨h.row.off f h1, fun p hp => (h.bs p hp).off f h2, h.ap⟩
theorem OwnC.fr0 {w w' : World} {base n : Nat} {v : Value} {ps : List ChL} (h : OwnC w base v n ps) (f : Fr No w w') : OwnC w' base v n ps := h.off f (fun _ _ _ _ h => h) (fun _ _ _ _ h => h)
theorem OwnC.lower {w : World} {base b2 n : Nat} {v : Value} {ps : List ChL} (h : OwnC w base v n ps) (hb : b2 ≤ base) : OwnC w b2 v n ps := ⟨h.row.lower hb, fun p hp => (h.bs p hp).lower hb, h.ap⟩
theorem OwnC.nil (w : World) (base : Nat) : OwnC w base (.slice none 0 0) 0 [] := ⟨Own.nil _ _ _ _, (fun p hp => by cases hp), List.Pairwise.nil⟩
/-- the cells of a chunk. -/
theorem OwnC.at {w : World} {base n k : Nat} {v : Value} {ps : List ChL} (h : OwnC w base v n ps) (hk : k < n) : ∃ g c p, v = .slice (some ⟨g, 0, none⟩) n c ∧ n ≤ c ∧ c ≤ maxLen ∧ ps[k]? = some p ∧ base ≤ g ∧
    w.cell? ⟨g, k * 3, none⟩ = some (.int .i64 (p.f : Nat)) ∧ w.cell? ⟨g, k * 3 + 1, none⟩ = some (.int .i64 (p.t : Nat)) ∧ w.cell? ⟨g, k * 3 + 2, none⟩ = some (bVal p) ∧ Own w base 5 1 (bVal p) p.b.length (by8 p.b) := by
  obtain ⟨A, c, rfl, h1, h2, _⟩ := h.row.form
  obtain ⟨g, rfl, hb, _, _, hc, _⟩ := h.row.storeN (k := 0) (by omega)
  have hl := h.len
  have hk2 : k < ps.length := by omega
  refine ⟨g, c, ps[k], rfl, h1, h2, List.getElem?_eq_getElem hk2, hb, ?_, ?_, ?_, h.bs _ (List.getElem_mem hk2)⟩
  · rw [hc _ (by omega)]; exact (cFlat_at hk2 (j := 0) (by omega)).trans rfl
  · rw [hc _ (by omega), cFlat_at hk2 (by omega)]; rfl
  · rw [hc _ (by omega), cFlat_at hk2 (by omega)]; rfl
theorem OwnC.snoc {w1 w2 : World} {base n : Nat} {v v2 : Value} {ps : List ChL} {p : ChL} (h : OwnC w1 base v n ps) (hp : Own w1 base 5 1 (bVal p) p.b.length (by8 p.b)) (hd : ∀ q ∈ ps, ∀ k, (bVal q).ownBlock = some k → (bVal p).ownBlock ≠ some k) (f : Fr (fun k => v.ownBlock = some k) w1 w2) (ho : Own w2 base 106 3 v2 (n + 1) (cFlat ps ++ cRow p)) : OwnC w2 base v2 (n + 1) (ps ++ [p]) := by
  have ho2 : Off (fun k => v.ownBlock = some k) w1 5 := off_own h.row (by decide)
  refine ⟨by rw [cFlat_snoc]; exact ho, ?_, ?_⟩
  · intro q hq
    rcases List.mem_append.1 hq with hq | hq
    · exact (h.bs q hq).off f ho2
    · rw [List.mem_singleton.1 hq]
      exact hp.off f ho2
  · rw [List.pairwise_append]
    refine ⟨h.ap, List.pairwise_singleton _ _, ?_⟩
    intro q hq r hr
    rw [List.mem_singleton.1 hr]
    exact hd q hq
theorem Try.infoChunk : (Try.prog.info? 106).map (fun i => (i.zero, i.size, i.bytes)) = some (some (.agg #[.int .i64 0, .int .i64 0, .slice none 0 0]), 3, 40) := by kernel_rfl

/-! A row of chunks: where each begins and ends. -/
def chs : Nat → List (Nat × List UInt8) → List (Nat × Nat × List UInt8)
  | _, [] => []
  | a, x :: r => (a, a + x.1, x.2) :: chs (a + x.1) r
def cntB (cs : List (Nat × List UInt8)) : Nat := (cs.map (·.1)).sum
theorem cntB_cons (x : Nat × List UInt8) (r : List (Nat × List UInt8)) : cntB (x :: r) = x.1 + cntB r := by simp [cntB]
theorem cntB_snoc (cs : List (Nat × List UInt8)) (x : Nat × List UInt8) : cntB (cs ++ [x]) = cntB cs + x.1 := by simp [cntB]
theorem chs_snoc (a : Nat) (cs : List (Nat × List UInt8)) (x : Nat × List UInt8) : chs a (cs ++ [x]) = chs a cs ++ [(a + cntB cs, a + cntB cs + x.1, x.2)] := by
  induction cs generalizing a with
  | nil => simp [chs, cntB]
  | cons y r ih =>
    rw [List.cons_append, chs, chs, ih, cntB_cons, List.cons_append]
    simp only [Nat.add_assoc]
theorem chs_len (a : Nat) (cs : List (Nat × List UInt8)) : (chs a cs).length = cs.length := by
  induction cs generalizing a with
  | nil => rfl
  | cons y r ih => rw [chs, List.length_cons, List.length_cons, ih]
def tri (p : ChL) : Nat × Nat × List UInt8 := (p.f, p.t, p.b)
/-- is the row to be gone on with by a new chunk? -/
def fullB (cs : List (Nat × List UInt8)) : Bool := match cs.getLast? with
  | none => true
  | some x => decide (256 ≤ x.2.length)
theorem fullB_snoc (cs : List (Nat × List UInt8)) (x : Nat × List UInt8) : fullB (cs ++ [x]) = decide (256 ≤ x.2.length) := by simp [fullB]
/-- the chunk that the next document goes into, and those ahead of it. -/
def openB (cs : List (Nat × List UInt8)) : List (Nat × List UInt8) × (Nat × List UInt8) := if fullB cs then (cs, (0, [])) else (cs.dropLast, cs.getLastD (0, []))
theorem openB_full {cs : List (Nat × List UInt8)} (h : fullB cs = true) : openB cs = (cs, (0, [])) := by unfold openB; rw [if_pos h]
theorem openB_part {cs : List (Nat × List UInt8)} (h : fullB cs = false) : ∃ x, cs = (openB cs).1 ++ [x] ∧ (openB cs).2 = x ∧ x.2.length < 256 := by
  unfold openB
  rw [if_neg (by rw [h]; decide)]
  unfold fullB at h
  cases hl : cs.getLast? with
  | none => rw [hl] at h; cases h
  | some x =>
    rw [hl] at h
    have hne : cs ≠ [] := fun e => by rw [e] at hl; cases hl
    have h1 := List.dropLast_concat_getLast hne
    rw [List.getLast?_eq_some_getLast hne] at hl
    injection hl with hl
    refine ⟨x, by rw [← hl]; exact h1.symm, ?_, by simpa using h⟩
    show cs.getLastD (0, []) = x
    rw [← hl, List.getLastD_eq_getLast?, List.getLast?_eq_some_getLast hne]
    rfl
theorem addD_open (cs : List (Nat × List UInt8)) (b : List UInt8) : addD cs b = (openB cs).1 ++ [((openB cs).2.1 + 1, (openB cs).2.2 ++ b)] := by
  by_cases hf : fullB cs = true
  · rw [openB_full hf]
    unfold addD
    unfold fullB at hf
    cases hl : cs.getLast? with
    | none =>
      have : cs = [] := List.getLast?_eq_none_iff.1 hl
      subst this
      rfl
    | some x =>
      rw [hl] at hf
      obtain ⟨n, y⟩ := x
      have hf : 256 ≤ y.length := by simpa using hf
      show (if 256 ≤ y.length then _ else _) = _
      rw [if_pos hf]
      rfl
  · have hf : fullB cs = false := by simpa using hf
    obtain ⟨x, h1, h2, h3⟩ := openB_part hf
    rw [h2]
    conv => lhs; rw [h1]
    unfold addD
    rw [List.getLast?_concat]
    show (if 256 ≤ x.2.length then _ else _) = _
    rw [if_neg (by omega), List.dropLast_concat]
theorem openB_small (cs : List (Nat × List UInt8)) : (openB cs).2.2.length < 256 := by
  by_cases hf : fullB cs = true
  · rw [openB_full hf]; simp
  · obtain ⟨x, h1, h2, h3⟩ := openB_part (by simpa using hf)
    rw [h2]; exact h3
theorem cutsB_cnt (ds : List (List EntV)) : cntB (cutsB ds) = ds.length := by
  have h : ∀ (ds : List (List EntV)) (k : Nat), k ≤ ds.length → cntB (cutsB (ds.take k)) = k := by
    intro ds k
    induction k with
    | zero => intro _; simp [cutsB, cntB]
    | succ k ih =>
      intro hk
      have e : ds.take (k + 1) = ds.take k ++ [ds.getD k []] := take_getD (by omega)
      have ih := ih (by omega)
      rw [e, cutsB_snoc, addD_open, cntB_snoc]
      by_cases hf : fullB (cutsB (ds.take k)) = true
      · rw [openB_full hf]
        dsimp only
        omega
      · obtain ⟨x, h1, h2, h3⟩ := openB_part (by simpa using hf)
        rw [h2]
        have h4 : cntB (cutsB (ds.take k)) = cntB (openB (cutsB (ds.take k))).1 + x.1 := by
          conv => lhs; rw [h1]
          exact cntB_snoc _ _
        dsimp only
        omega
  have := h ds ds.length (Nat.le_refl _)
  rwa [List.take_length] at this
end Go.Proofs.Ytpnhnnhocekchaa
namespace Go.Proofs.Ytpnhnnhocekchaa
set_option linter.unusedVariables false
set_option linter.unusedSimpArgs false
open Go.RowKit

set_option maxHeartbeats 400000 in
theorem formU_any (u : Int) (w : World) : Calls Try.prog 101 #[.int .u64 u] w (Ret (.int .u64 u) w) := by
  go_enter Try.func101, Try.ntmps101
  go_wp2
  go_ret
  exact ⟨rfl, rfl⟩

set_option maxRecDepth 100000 in
set_option maxHeartbeats 1000000 in
theorem putU_loop (A : Option Addr) (n c B : Nat) (bs : List UInt8) (u : Nat) (x : Int) (w : World) (hl : bs.length = n) (hn : n ≤ c) (hc : c ≤ maxLen) (hb : n ≤ 140737488350000) (hB : B ≤ w.heap.size) (hr : Rd w B A (by8 bs)) (hu : u < 18446744073709551616)
    (hform : ∀ W, Calls Try.prog 101 #[.int .u64 x] W (Ret (.int .u64 u) W)) :
    Calls Try.prog 100 #[.slice A n c, .int .u64 x, .func (.func 101) #[] #[]] w (GivesB w (bs ++ enc u)) := by
  have H := hide (clone_any A n c B bs w hl hn hc (by omega) hB hr)
  have HFo := hide hform
  have HL := hide hl
  clear hr hl hform
  obtain ⟨i0, hi, hz, hsz, hby⟩ := info_parts Try.info5
  go_enter Try.func100, Try.ntmps100
  go_wp2_with (first | (go_at_call 92; refine H.out.mono ?_; rintro en w1 ⟨v1, rfl, hown, hfr⟩; have HO := hide hown; have HF := hide hfr; clear hown hfr) | (go_at_call 101; refine (HFo.out _).mono ?_; rintro en w2 ⟨rfl, rfl⟩))
  clear H HFo
  go_loopw [7, 8] (fun v y wr => ∃ (f k : Nat) (done : List UInt8), y = .int .u64 (k : Nat) ∧ Hid (Own wr w.heap.size 5 1 v done.length (by8 done)) ∧ Hid (done ++ encF f k = bs ++ enc u) ∧ Hid (Fr No w wr) ∧ Hid (f ≤ 9 ∧ done.length ≤ n + 9 - f ∧ k * 2 ^ (7 * (9 - f)) < 18446744073709551616)) (fun _ y _ => (intOf y).toNat)
  case atStart => exact ⟨9, u, bs, rfl, HO, hide rfl, HF, hide ⟨Nat.le_refl _, by rw [HL.out]; omega, by simpa using hu⟩⟩
  case round =>
    obtain ⟨f, k, done, rfl, HOw, HE, HFr, HB⟩ := hrel
    clear HO HF HL
    obtain ⟨hf9, hdl, hk⟩ := HB.out
    have hgw := HFr.out.size
    by_cases hbig : 127 < k
    · obtain ⟨f', rfl⟩ : ∃ f', f = f' + 1 := by
        cases f with
        | zero => exfalso; have e : (2 : Nat) ^ (7 * (9 - 0)) = 9223372036854775808 := by decide
                  rw [e] at hk; omega
        | succ f' => exact ⟨f', rfl⟩
      have HK := hide hk; clear hk
      have ho := or_128 k
      have HD := hide (show encF (f' + 1) k = UInt8.ofNat (k % 128 + 128) :: encF f' (k / 128) by rw [encF, if_pos hbig])
      generalize UInt8.ofNat (k % 128 + 128) = b at ho HD
      have HS := hide (Src.one (P := Try.prog) wr (e := 5) Try.underlying23 (.int .u8 b.toNat) rfl)
      have HOw' := hide (HOw.out.fr0 ((Fr.refl No wr).alloc (.cells #[.int .u8 b.toNat] 5)))
      have b1 : (done.length + 1) * 1 ≤ 140737488355328 := by omega
      have b2 : done.length + 1 ≤ maxLen := by unfold maxLen; omega
      have b3 : w.heap.size ≤ (wr.alloc (.cells #[.int .u8 b.toNat] 5)).heap.size := by simp; omega
      have HR := hide (show Own wr w.heap.size 5 1 u7 done.length (by8 done) → ∀ k, u7.ownBlock = some k → w.heap.size ≤ k from fun h k hk => (h.lt k hk).1)
      go_wp2_with (at_builtin; refine wpList_append_gen _ rfl (.tmp 18) (.tmp 22) 23 23 rfl w.heap.size 5 i0 (.int .u8 0) 1 1 Try.underlying23 hi hz hsz hby rfl u7 done.length (by8 done) rfl HOw'.out _ 1 [.int .u8 b.toNat] rfl HS.out b1 b2 b3 ?_; intro v' w' hown hfr hat; have HOn := hide hown; have HFn := hide hfr; clear hown hfr hat)
      go_roundw
      case rel =>
        refine ⟨f', k / 128, done ++ [b], by go_num, hide (by simpa [by8] using HOn.out), hide ?_, hide ((HFr.out.alloc _).own HFn.out (fun g hg => .inl (HOw.out.lt g hg).1)), hide ⟨by omega, by simp; omega, ?_⟩⟩
        · rw [← HE.out, HD.out]; simp
        · have e : 7 * (9 - f') = 7 * ((9 - (f' + 1)) + 1) := by omega
          rw [e, pow7, ← Nat.mul_assoc]
          exact Nat.lt_of_le_of_lt (Nat.mul_le_mul_right _ (by omega)) HK.out
      case measure => simp [intOf]; omega
    · obtain ⟨b, rfl⟩ : ∃ b : UInt8, k = b.toNat := ⟨UInt8.ofNat k, (ofNat_toNat (by omega)).symm⟩
      have HD := hide (show encF f b.toNat = [b] by cases f with
        | zero => simp [encF]
        | succ f => rw [encF, if_neg hbig]; simp)
      clear hk
      have HS := hide (Src.one (P := Try.prog) wr (e := 5) Try.underlying23 (.int .u8 b.toNat) rfl)
      have HOw' := hide (HOw.out.fr0 ((Fr.refl No wr).alloc (.cells #[.int .u8 b.toNat] 5)))
      have b1 : (done.length + 1) * 1 ≤ 140737488355328 := by omega
      have b2 : done.length + 1 ≤ maxLen := by unfold maxLen; omega
      have b3 : w.heap.size ≤ (wr.alloc (.cells #[.int .u8 b.toNat] 5)).heap.size := by simp; omega
      go_wp2_with (first | (at_builtin; refine wpList_append_gen _ rfl (.tmp 24) (.tmp 27) 23 23 rfl w.heap.size 5 i0 (.int .u8 0) 1 1 Try.underlying23 hi hz hsz hby rfl u7 done.length (by8 done) rfl HOw'.out _ 1 [.int .u8 b.toNat] rfl HS.out b1 b2 b3 ?_; intro v' w' hown hfr hat; obtain ⟨A1, c1, rfl, hc1, hc2, _⟩ := hown.form; have HOn := hide hown; have HFn := hide hfr; clear hown hfr hat) | (go_at_call 59; refine (clip_any _ _ _ _ hc1 hc2).mono ?_; rintro en w2 ⟨rfl, rfl⟩))
      go_ret
      refine ⟨_, rfl, ?_, (HFr.out.alloc _).own HFn.out (fun g hg => .inl (HOw.out.lt g hg).1)⟩
      rw [← HE.out, HD.out, by8_append, List.length_append]
      exact HOn.out.clip

theorem putU_any (A : Option Addr) (n c B : Nat) (bs : List UInt8) (u : Nat) (w : World) (hl : bs.length = n) (hn : n ≤ c) (hc : c ≤ maxLen) (hb : n ≤ 140737488350000) (hB : B ≤ w.heap.size) (hr : Rd w B A (by8 bs)) (hu : u < 18446744073709551616) :
    Calls Try.prog 72 #[.slice A n c, .int .u64 u] w (GivesB w (bs ++ enc u)) := by
  have H := hide (putU_loop A n c B bs u u w hl hn hc hb hB hr hu (fun W => formU_any _ W))
  clear hr hl
  go_enter Try.func72, Try.ntmps72
  go_wp2_with (go_at_call 100; refine H.out.mono ?_; rintro en w1 ⟨v1, rfl, hown, hfr⟩; have HO := hide hown; have HF := hide hfr; clear hown hfr)
  go_ret
  exact ⟨_, rfl, HO.out, HF.out⟩

end Go.Proofs.Ytpnhnnhocekchaa
namespace Go.Proofs.Ytpnhnnhocekchaa
set_option linter.unusedVariables false
set_option linter.unusedSimpArgs false
open Go.RowKit

set_option maxRecDepth 100000 in
set_option maxHeartbeats 800000 in
theorem putText_any (A : Option Addr) (n c B : Nat) (bs : List UInt8) (s : ByteArray) (w : World) (hl : bs.length = n) (hn : n ≤ c) (hc : c ≤ maxLen) (hb : n + s.size ≤ 140737488350000) (hB : B ≤ w.heap.size) (hr : Rd w B A (by8 bs)) :
    Calls Try.prog 110 #[.slice A n c, .string s] w (GivesB w (bs ++ enc s.size ++ s.data.toList)) := by
  have H := hide (putU_any A n c B bs s.size w hl hn hc (by omega) hB hr (by omega))
  obtain ⟨i0, hi, hz, hsz, hby⟩ := info_parts Try.info5
  have hlen : (bs ++ enc s.size).length ≤ n + 10 := by
    have := (encF_len 9 s.size).2
    rw [List.length_append, hl]
    unfold enc
    omega
  generalize bs ++ enc s.size = xs at H hlen
  have hs : s.size ≤ 9223372036854775807 := by omega
  clear hr hl hn hc
  generalize hm : s.size = m at *
  have HS := fun W => Src.ofString (P := Try.prog) (w := W) Try.underlying9 s
  rw [hm, byteCells_by8] at HS
  have HS' := hide HS
  have hsl : s.data.toList.length = m := by rw [← hm, Array.length_toList]; rfl
  generalize s.data.toList = t at HS' hsl
  have b1 : (xs.length + m) * 1 ≤ 140737488355328 := by omega
  have b2 : xs.length + m ≤ maxLen := by unfold maxLen; omega
  clear HS
  go_enter Try.func110, Try.ntmps110
  go_wp2_with (first | (go_at_call 72; refine H.out.mono ?_; rintro en w1 ⟨v1, rfl, hown, hfr⟩; have HO := hide hown; have HF := hide hfr; have b3 := hfr.size; clear hown hfr) | (at_builtin; refine wpList_append_gen _ rfl (.tmp 9) (.tmp 10) 23 9 rfl w.heap.size 5 i0 (.int .u8 0) 1 1 Try.underlying23 hi hz hsz hby rfl v1 xs.length (by8 xs) rfl HO.out _ m (by8 t) rfl (HS'.out w1) b1 b2 b3 ?_; intro v' w' hown hfr hat; obtain ⟨A1, c1, rfl, hc1, hc2, _⟩ := hown.form; have HOn := hide hown; have HFn := hide hfr; clear hown hfr hat) | (go_at_call 59; refine (clip_any _ _ _ _ hc1 hc2).mono ?_; rintro en w2 ⟨rfl, rfl⟩))
  go_ret
  refine ⟨_, rfl, ?_, HF.out.own HFn.out (fun g hg => .inl (HO.out.lt g hg).1)⟩
  rw [by8_append, List.length_append, hsl]
  exact HOn.out.clip

end Go.Proofs.Ytpnhnnhocekchaa
