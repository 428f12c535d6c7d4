/- The first number from one on that is held: math/bits.TrailingZeros64, after. Condition: the library's table lies as laid. -/
import Derived.Test.YtapfbjaopbcgjaaDoorBitsM
import Derived.Shelf.Spec.TrailingZeros
namespace Go.Proofs.YtapfbjaopbcgjaaDoor
set_option linter.unusedVariables false
set_option linter.unusedSimpArgs false
open Go.RowKit

/-- the library's table, in its variable. -/
def Tab (w : World) : Prop := ∀ j, j < 64 → w.cell? ⟨0, j, none⟩ = some (.int .u8 (Lib.deBruijn64tab.getD j 0 : Nat))
theorem Tab.fr {S : Nat → Prop} {w w' : World} (h : Tab w) (f : Fr S w w') (hS : ¬ S 0) : Tab w' := fun j hj => f.cell (h j hj) hS
theorem Tab.fr0 {w w' : World} (h : Tab w) (f : Fr No w w') : Tab w' := h.fr f (fun h => h)
theorem Tab.lt {w : World} (h : Tab w) : 0 < w.heap.size := World.block_lt_of_cell? w _ (h 0 (by omega))

theorem ctz_is {x k : Nat} (hx : x < 18446744073709551616) (h1 : x.testBit k = true) (h2 : ∀ j, j < k → x.testBit j = false) : Lib.ctz 64 x = k := by
  have h0 : x ≠ 0 := by
    rintro rfl
    simp at h1
  unfold Lib.ctz
  rw [if_neg h0]
  obtain ⟨m, hm, hc⟩ := Lib.ctzFrom_spec 64 x (by omega) hx
  generalize Lib.ctzFrom 64 x = c at hm hc
  have hb : ∀ j, x.testBit j = (decide (c ≤ j) && (2 * m + 1).testBit (j - c)) := fun j => by
    rw [hm, Nat.mul_comm, Nat.testBit_mul_two_pow]
  rcases Nat.lt_trichotomy c k with h | h | h
  · have := h2 c h
    rw [hb c, decide_eq_true (Nat.le_refl _), Nat.sub_self, Nat.testBit_zero] at this
    simp at this
  · exact h
  · rw [hb k, decide_eq_false (by omega)] at h1
    cases h1

set_option maxRecDepth 100000 in
set_option maxHeartbeats 400000 in
theorem tz_core (x k idx : Nat) (w : World) (hx0 : ((x : Int) == 0) = false)
    (key : IntKind.u64.wrap (bits .and .u64 (x : Int) (IntKind.u64.wrap (-(x : Int))) * 285870213051353865) / 288230376151711744 = (idx : Int))
    (hi : idx < 64) (hk : k < 64) (hcell : w.cell? ⟨0, idx, none⟩ = some (.int .u8 k)) :
    Calls Tryd.prog 79 #[.int .u64 (x : Nat)] w (Ret (.int .i64 (k : Nat)) w) := by
  go_enter Tryd.func79, Tryd.ntmps79
  go_wp2_with (simp only [key])
  go_ret
  exact ⟨rfl, rfl⟩
theorem tz_any (x : Nat) (w : World) (hx : x < 18446744073709551616) (h0 : x ≠ 0) (hT : Tab w) : Calls Tryd.prog 79 #[.int .u64 (x : Nat)] w (Ret (.int .i64 (Lib.ctz 64 x : Nat)) w) := by
  obtain ⟨hlow, hk⟩ := Lib.lowest_bit 64 x h0 hx
  obtain ⟨hi, htab⟩ := Lib.deBruijn64_at _ hk
  have hcell := hT _ hi
  rw [htab] at hcell
  exact tz_core x _ _ w (by simp; omega) (tz64_key x _ hx h0 hlow) hi hk hcell

/-- the bits from one on. -/
def sh (l : List Bool) (i : Nat) : Nat := wd l (i / 64) >>> (i % 64)
theorem sh_lt (l : List Bool) (i : Nat) : sh l i < 18446744073709551616 := by
  unfold sh
  rw [Nat.shiftRight_eq_div_pow]
  exact Nat.lt_of_le_of_lt (Nat.div_le_self _ _) (wd_lt _ _)
theorem sh_int (l : List Bool) (i : Nat) : (((wd l (i / 64) : Nat) : Int) / 2 ^ (i % 64)) = ((sh l i : Nat) : Int) := by
  unfold sh
  rw [Nat.shiftRight_eq_div_pow]
  simp
theorem sh_zero {l : List Bool} {i : Nat} (h : ∀ j, i ≤ j → j < (i / 64 + 1) * 64 → hasN l j = false) : sh l i = 0 := by
  apply Nat.eq_of_testBit_eq
  intro j
  unfold sh
  rw [wd_shr, Nat.zero_testBit]
  by_cases hj : i % 64 + j < 64
  · rw [h (i + j) (by omega) (by omega)]; simp
  · rw [decide_eq_false hj]; rfl
theorem sh_hit {l : List Bool} {i k : Nat} (h1 : i ≤ k) (h2 : k < (i / 64 + 1) * 64) (hk : hasN l k = true) (h : ∀ j, i ≤ j → j < k → hasN l j = false) : sh l i ≠ 0 ∧ i + Lib.ctz 64 (sh l i) = k := by
  have hb : ∀ j, (sh l i).testBit j = (decide (i % 64 + j < 64) && hasN l (i + j)) := fun j => wd_shr l i j
  have ht : (sh l i).testBit (k - i) = true := by
    rw [hb, decide_eq_true (by omega), show i + (k - i) = k by omega, hk]
    rfl
  have hc := ctz_is (sh_lt l i) ht (fun j hj => by rw [hb, h (i + j) (by omega) (by omega)]; simp)
  refine ⟨fun e => ?_, by omega⟩
  rw [e] at ht
  simp at ht
theorem next_cases (l : List Bool) (i : Nat) : (∃ k, i ≤ k ∧ k < l.length ∧ hasN l k = true ∧ ∀ j, i ≤ j → j < k → hasN l j = false) ∨ (∀ j, i ≤ j → hasN l j = false) := by
  suffices H : ∀ d i, l.length - i ≤ d → (∃ k, i ≤ k ∧ k < l.length ∧ hasN l k = true ∧ ∀ j, i ≤ j → j < k → hasN l j = false) ∨ (∀ j, i ≤ j → hasN l j = false) from H _ i (Nat.le_refl _)
  intro d
  induction d with
  | zero => exact fun i hi => .inr fun j hj => hasN_big (by omega)
  | succ d ih =>
    intro i hi
    by_cases hl : i < l.length
    · cases hb : hasN l i with
      | true => exact .inl ⟨i, Nat.le_refl _, hl, hb, fun j h1 h2 => by omega⟩
      | false =>
        rcases ih (i + 1) (by omega) with ⟨k, h1, h2, h3, h4⟩ | h
        · refine .inl ⟨k, by omega, h2, h3, fun j h5 h6 => ?_⟩
          by_cases e : j = i
          · rw [e]; exact hb
          · exact h4 j (by omega) h6
        · refine .inr fun j h5 => ?_
          by_cases e : j = i
          · rw [e]; exact hb
          · exact h j (by omega)
    · exact .inr fun j hj => hasN_big (by omega)

set_option maxRecDepth 100000 in
set_option maxHeartbeats 800000 in
theorem after_yes (B : Nat) (v : Value) (l : List Bool) (i k : Nat) (w : World) (h : BV w B v l) (hT : Tab w) (h1 : i ≤ k) (h2 : k < l.length) (h3 : hasN l k = true) (h4 : ∀ j, i ≤ j → j < k → hasN l j = false) :
    Calls Tryd.prog 76 #[v, .int .i64 (i : Nat)] w (Ret (.tuple #[.int .i64 (k : Nat), .bool true]) w) := by
  have HL := hide (len_any B v l w h)
  rcases h with ⟨rfl, rfl⟩ | ⟨g, gw, rfl, h⟩
  · simp at h2
  · have hc0 := h.cell0
    have hm := h.most
    have HW := hide (fun (j : Nat) (hj : j / 64 < wcount l.length) => h.word hj)
    have hwc : wcount l.length = (l.length + 63) / 64 := rfl
    have H3 := hide h3
    have H4 := hide h4
    have HT := hide hT
    clear h h3 h4 hT
    obtain ⟨n, hn⟩ : ∃ n, n = l.length := ⟨_, rfl⟩
    rw [← hn] at HL h2 hm hwc hc0 HW
    clear hn
    generalize wcount n = m at hc0 HW hwc
    go_enter Tryd.func76, Tryd.ntmps76
    go_wp2
    go_loop [1, 6] (fun a x => ∃ j : Nat, i ≤ j ∧ j ≤ k ∧ a = .int .i64 j) (fun a _ => k + 1 - (intOf a).toNat)
    case atStart => exact ⟨i, Nat.le_refl _, h1, rfl⟩
    case round =>
      obtain ⟨j, hj1, hj2, rfl⟩ := hrel
      have hjm : j / 64 < m := by omega
      have hjc : ((j : Int) / 64) < (m : Int) := by omega
      have hcell := HW.out j hjm
      have hsi := sh_int l j
      have hsl := sh_lt l j
      by_cases hb : k < (j / 64 + 1) * 64
      · obtain ⟨hne, hsum⟩ := sh_hit hj2 hb H3.out (fun q a b => H4.out q (by omega) b)
        have HTZ := hide (tz_any (sh l j) w hsl hne HT.out)
        have hx0 : (((sh l j : Nat) : Int) != 0) = true := by simp; omega
        generalize wd l (j / 64) = x at hcell hsi
        generalize sh l j = y at hsi HTZ hx0 hsum
        clear hne hb hsl hwc
        go_wp2_with (first
          | (go_at_call 16; refine HL.out.mono ?_; rintro en w' ⟨rfl, rfl⟩)
          | (go_at_call 79; refine HTZ.out.mono ?_; rintro en w' ⟨rfl, rfl⟩))
        go_ret2
        exact ⟨by rw [← hsum]; rfl, rfl⟩
      · have hz := sh_zero (l := l) (i := j) (fun q a b => H4.out q (by omega) (by omega))
        have hx0 : (((sh l j : Nat) : Int) != 0) = false := by rw [hz]; rfl
        generalize wd l (j / 64) = x at hcell hsi
        generalize sh l j = y at hsi hx0
        clear hz hsl hwc
        go_wp2_with (go_at_call 16; refine HL.out.mono ?_; rintro en w' ⟨rfl, rfl⟩)
        go_round
        case rel => exact ⟨(j / 64 + 1) * 64, by omega, by omega, by go_num⟩
        case measure => simp [intOf]; omega

set_option maxRecDepth 100000 in
set_option maxHeartbeats 800000 in
theorem after_no (B : Nat) (v : Value) (l : List Bool) (i : Nat) (w : World) (h : BV w B v l) (h4 : ∀ j, i ≤ j → hasN l j = false) (hi : i ≤ 16384) :
    Calls Tryd.prog 76 #[v, .int .i64 (i : Nat)] w (Ret (.tuple #[.int .i64 0, .bool false]) w) := by
  have HL := hide (len_any B v l w h)
  rcases h with ⟨rfl, rfl⟩ | ⟨g, gw, rfl, h⟩
  · rw [show (([] : List Bool).length : Nat) = 0 from rfl] at HL
    clear h4
    go_enter Tryd.func76, Tryd.ntmps76
    go_wp2
    go_loop [1] (fun a => a = .int .i64 (i : Nat)) (fun _ => 0)
    case atStart => rfl
    case round =>
      subst hrel
      go_wp2_with (go_at_call 16; refine HL.out.mono ?_; rintro en w' ⟨rfl, rfl⟩)
      go_ret2
      exact ⟨rfl, rfl⟩
  · have hc0 := h.cell0
    have hm := h.most
    have HW := hide (fun (j : Nat) (hj : j / 64 < wcount l.length) => h.word hj)
    have hwc : wcount l.length = (l.length + 63) / 64 := rfl
    have H4 := hide h4
    clear h h4
    obtain ⟨n, hn⟩ : ∃ n, n = l.length := ⟨_, rfl⟩
    rw [← hn] at HL hm hwc hc0 HW
    clear hn
    generalize wcount n = m at hc0 HW hwc
    go_enter Tryd.func76, Tryd.ntmps76
    go_wp2
    go_loop [1, 6] (fun a x => ∃ j : Nat, i ≤ j ∧ j ≤ 32768 ∧ a = .int .i64 j) (fun a _ => 65536 - (intOf a).toNat)
    case atStart => exact ⟨i, Nat.le_refl _, by omega, rfl⟩
    case round =>
      obtain ⟨j, hj1, hj2, rfl⟩ := hrel
      by_cases hjn : j < n
      · have hjm : j / 64 < m := by omega
        have hjc : ((j : Int) / 64) < (m : Int) := by omega
        have hcell := HW.out j hjm
        have hsi := sh_int l j
        have hz := sh_zero (l := l) (i := j) (fun q a b => H4.out q (by omega))
        have hx0 : (((sh l j : Nat) : Int) != 0) = false := by rw [hz]; rfl
        generalize wd l (j / 64) = x at hcell hsi
        generalize sh l j = y at hsi hx0
        clear hz hwc
        go_wp2_with (go_at_call 16; refine HL.out.mono ?_; rintro en w' ⟨rfl, rfl⟩)
        go_round
        case rel => exact ⟨(j / 64 + 1) * 64, by omega, by omega, by go_num⟩
        case measure => simp [intOf]; omega
      · clear hwc
        go_wp2_with (go_at_call 16; refine HL.out.mono ?_; rintro en w' ⟨rfl, rfl⟩)
        go_ret2
        exact ⟨rfl, rfl⟩
end Go.Proofs.YtapfbjaopbcgjaaDoor
