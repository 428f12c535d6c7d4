/- Count: how many are held. -/
import Derived.Test.YtapfbjaopbcgjaaDoorPopP
import Derived.Test.YtapfbjaopbcgjaaDoorBitsM
namespace Go.Proofs.YtapfbjaopbcgjaaDoor
set_option linter.unusedVariables false
set_option linter.unusedSimpArgs false
open Go.RowKit

def countL (l : List Bool) : Nat := cntN (hasN l) l.length
theorem wd_cnt (l : List Bool) (i : Nat) : cntN (fun j => (wd l i).testBit j) 64 = cntN (fun j => hasN l (64 * i + j)) 64 := by
  apply cntN_congr
  intro j hj
  rw [wd_bit, decide_eq_true hj]
  rfl
theorem cnt_beyond (l : List Bool) (k : Nat) : ∀ m, cntN (fun j => hasN l (l.length + j)) m = 0
  | 0 => rfl
  | m + 1 => by rw [cntN, cnt_beyond l k m, hasN_big (by omega)]; rfl
theorem cnt_words (l : List Bool) : cntN (hasN l) (64 * wcount l.length) = countL l := by
  have h : 64 * wcount l.length = l.length + (64 * wcount l.length - l.length) := by unfold wcount; omega
  rw [h, cntN_add, cnt_beyond l 0]
  rfl

set_option maxRecDepth 100000 in
set_option maxHeartbeats 400000 in
theorem count1_any (n : Nat) (i : Value) (x : Nat) (w : World) (hx : x < 18446744073709551616) (hn : n ≤ 1000000) : Calls Tryd.prog 52 #[.int .i64 (n : Nat), i, .int .u64 (x : Nat)] w (Ret (.int .i64 (n + cntN (fun j => x.testBit j) 64 : Nat)) w) := by
  have HO := hide (ones_any x w hx)
  have hk := cntN_le (fun j => x.testBit j) 64
  generalize cntN (fun j => x.testBit j) 64 = c at HO hk ⊢
  go_enter Tryd.func52, Tryd.ntmps52
  go_wp2_with (go_at_call 53; refine HO.out.mono ?_; rintro en w' ⟨rfl, rfl⟩)
  go_ret
  exact ⟨rfl, rfl⟩

set_option maxRecDepth 100000 in
set_option maxHeartbeats 800000 in
theorem fold_any (B : Nat) (v : Value) (l : List Bool) (w : World) (h : BV w B v l) :
    Calls Tryd.prog 51 #[v, .int .i64 0, .func (.func 52) #[] #[]] w (Ret (.int .i64 (countL l : Nat)) w) := by
  have HL := hide (len_any B v l w h)
  have HC := hide (cnt_words l)
  rcases h with ⟨rfl, rfl⟩ | ⟨g, gw, rfl, h⟩
  · have e : countL [] = 0 := rfl
    rw [e]
    rw [show (([] : List Bool).length : Nat) = 0 from rfl] at HL
    go_enter Tryd.func51, Tryd.ntmps51
    go_wp2_with (go_at_call 16; refine HL.out.mono ?_; rintro en w' ⟨rfl, rfl⟩)
    go_loop [1, 12] (fun s i => s = .int .i64 0 ∧ i = .int .i64 0) (fun _ _ => 0)
    case atStart => exact ⟨rfl, rfl⟩
    case round =>
      obtain ⟨rfl, rfl⟩ := hrel
      go_wp2
      go_ret
      exact ⟨rfl, rfl⟩
  · have hc0 := h.cell0
    have hm := h.most
    have HW := hide (fun (k : Nat) (hk : k < wcount l.length) => h.word hk)
    have HWl := hide (wd_lt l)
    have HWc := hide (wd_cnt l)
    have hq : (((l.length : Nat) : Int) + 63) / 64 = ((wcount l.length : Nat) : Int) := by unfold wcount; omega
    have hmc : wcount l.length ≤ 256 := by unfold wcount; omega
    generalize wcount l.length = m at hc0 HW hq hmc HC
    clear h
    generalize l.length = n at HL hm hq
    go_enter Tryd.func51, Tryd.ntmps51
    go_wp2_with (go_at_call 16; refine HL.out.mono ?_; rintro en w' ⟨rfl, rfl⟩)
    rw [hq]
    clear hq
    have HN := hide (fun k => cntN_le (hasN l) (64 * k))
    have HA := hide (fun k => cntN_add (hasN l) (64 * k) 64)
    go_loop [1, 12] (fun s i => ∃ k y : Nat, k ≤ m ∧ i = .int .i64 k ∧ s = .int .i64 (y : Nat) ∧ Hid (y = cntN (hasN l) (64 * k))) (fun _ i => m - (intOf i).toNat)
    case atStart => exact ⟨0, 0, by omega, rfl, rfl, hide rfl⟩
    case round =>
      obtain ⟨k, y, hk, rfl, rfl, HY⟩ := hrel
      by_cases hlt : k < m
      · have hcell := HW.out k hlt
        have hy : y ≤ 1000000 := by rw [HY.out]; have := HN.out k; omega
        have HC1 := hide (fun i => count1_any y i (wd l k) w (HWl.out k) hy)
        have HS := hide (show y + cntN (fun j => (wd l k).testBit j) 64 = cntN (hasN l) (64 * (k + 1)) by
          rw [HWc.out, HY.out, ← HA.out]
          congr 1)
        generalize wd l k = x at hcell HC1 HS
        generalize y + cntN (fun j => x.testBit j) 64 = z at HC1 HS
        go_wp2_with (go_at_call 52; refine (HC1.out _).mono ?_; rintro en w' ⟨rfl, rfl⟩)
        go_round
        case rel => exact ⟨k + 1, z, by omega, by go_num, rfl, HS⟩
        case measure => simp [intOf]; omega
      · obtain rfl : k = m := by omega
        go_wp2
        go_ret
        exact ⟨by rw [← HC.out, ← HY.out]; rfl, rfl⟩

set_option maxRecDepth 100000 in
set_option maxHeartbeats 400000 in
theorem count_any (B : Nat) (v : Value) (l : List Bool) (w : World) (h : BV w B v l) :
    Calls Tryd.prog 27 #[v] w (Ret (.int .i64 (countL l : Nat)) w) := by
  have HF := hide (fold_any B v l w h)
  clear h
  go_enter Tryd.func27, Tryd.ntmps27
  go_wp2_with (go_at_call 51; refine HF.out.mono ?_; rintro en w' ⟨rfl, rfl⟩)
  go_ret
  exact ⟨rfl, rfl⟩
end Go.Proofs.YtapfbjaopbcgjaaDoor
