/- The check of bytes, as the program reckons it: four bits at a time, by a table. -/
import Derived.Test.YtapfbjaopbcgjaaCrcP
import Derived.Test.YtapfbjaopbcgjaaBase
import Derived.Laws.Tables
import Derived.Laws.BitsAllLaws
namespace Go.Proofs.Ytapfbjaopbcgjaa
set_option linter.unusedVariables false
set_option linter.unusedSimpArgs false
open Go.RowKit

theorem crc_and1 (c : Nat) (h : c < 4294967296) : bits .and .u32 (c : Int) 1 = ((c % 2 : Nat) : Int) := by
  have := u32_and_nat c 1 h (by omega)
  rw [Nat.and_one_is_mod] at this
  exact this
theorem crc_and15 (c : Nat) (h : c < 4294967296) : bits .and .u32 (c : Int) 15 = ((c % 16 : Nat) : Int) := by
  have := u32_and_nat c 15 h (by omega)
  rw [show (15 : Nat) = 2 ^ 4 - 1 from rfl, Nat.and_two_pow_sub_one_eq_mod] at this
  exact this

theorem crc1_bits (y : Nat) (h : y < 4294967296) : bits .xor .u32 ((y : Int) / 2) (3988292384 * ((y : Int) % 2)) = ((crc1 y : Nat) : Int) := by
  have := u32_xor_nat (y / 2) (3988292384 * (y % 2)) (by omega) (by omega)
  rw [← show bits .xor .u32 (((y / 2 : Nat)) : Int) (((3988292384 * (y % 2) : Nat)) : Int) = ((crc1 y : Nat) : Int) from this]
  congr 1

set_option maxRecDepth 100000 in
set_option maxHeartbeats 400000 in
theorem tstep_any (c : Nat) (w : World) (hc : c < 4294967296) : Calls Try.prog 43 #[.int .u32 (c : Nat)] w (Ret (.int .u32 (crcN 4 c : Nat)) w) := by
  go_enter Try.func43, Try.ntmps43
  go_wp2
  go_loop [0, 3] (fun x i => ∃ k y : Nat, k ≤ 4 ∧ i = .int .i64 k ∧ x = .int .u32 (y : Nat) ∧ y < 4294967296 ∧ Hid (crcN (4 - k) y = crcN 4 c)) (fun _ i => 4 - (intOf i).toNat)
  case atStart => exact ⟨0, c, by omega, rfl, rfl, hc, hide rfl⟩
  case round =>
    obtain ⟨k, y, hk, rfl, rfl, hy, HY⟩ := hrel
    by_cases hlt : k < 4
    · have HX := crc_and1 y hy
      have HB := hide (crc1_bits y hy)
      have HE : Hid (crcN (4 - (k + 1)) (crc1 y) = crcN 4 c) := hide (by
        have h := HY.out
        rw [show 4 - k = (4 - (k + 1)) + 1 by omega] at h
        exact h)
      go_wp2
      go_round
      case rel => exact ⟨k + 1, crc1 y, by omega, by go_num, by rw [HB.out], crc1_lt hy, HE⟩
      case measure => simp [intOf]; omega
    · obtain rfl : k = 4 := by omega
      go_wp2
      go_ret
      exact ⟨by rw [← HY.out]; rfl, rfl⟩

/-- the table. -/
def tb (j : Nat) : Nat := crcN 4 j
theorem tb_lt {j : Nat} (h : j < 16) : tb j < 4294967296 := crcN_lt 4 (by omega)
def rowT (k : Nat) : Array Value := ((List.range 16).map fun j => Value.int .u32 ((if j < k then tb j else 0 : Nat) : Int)).toArray
theorem rowT_size (k : Nat) : (rowT k).size = 16 := by simp [rowT]
theorem rowT_get (k j : Nat) (h : j < 16) : (rowT k)[j]? = some (.int .u32 ((if j < k then tb j else 0 : Nat) : Int)) := by
  simp [rowT, List.getElem?_map, List.getElem?_range h]
theorem rowT_set (k : Nat) (h : k < 16) : (rowT k).setIfInBounds k (.int .u32 (tb k : Nat)) = rowT (k + 1) := by
  apply Array.ext
  · simp [rowT]
  · intro i h1 h2
    have hi : i < 16 := by simpa [rowT] using h2
    by_cases e : i = k
    · subst e
      simp [rowT]
    · rw [Array.getElem_setIfInBounds_ne (by simpa [rowT] using h2) (fun h => e h.symm)]
      simp only [rowT, List.getElem_toArray, List.getElem_map, List.getElem_range]
      by_cases h3 : i < k
      · rw [if_pos h3, if_pos (by omega)]
      · rw [if_neg h3, if_neg (by omega)]
theorem rowT_all : rowT 16 = #[.int .u32 (tb 0 : Nat), .int .u32 (tb 1 : Nat), .int .u32 (tb 2 : Nat), .int .u32 (tb 3 : Nat), .int .u32 (tb 4 : Nat), .int .u32 (tb 5 : Nat), .int .u32 (tb 6 : Nat), .int .u32 (tb 7 : Nat), .int .u32 (tb 8 : Nat), .int .u32 (tb 9 : Nat), .int .u32 (tb 10 : Nat), .int .u32 (tb 11 : Nat), .int .u32 (tb 12 : Nat), .int .u32 (tb 13 : Nat), .int .u32 (tb 14 : Nat), .int .u32 (tb 15 : Nat)] := rfl
theorem rowT_zero : rowT 0 = #[.int .u32 0, .int .u32 0, .int .u32 0, .int .u32 0, .int .u32 0, .int .u32 0, .int .u32 0, .int .u32 0, .int .u32 0, .int .u32 0, .int .u32 0, .int .u32 0, .int .u32 0, .int .u32 0, .int .u32 0, .int .u32 0] := rfl

theorem Fr.setRow (w : World) (g : Nat) (cs : Array Value) : Fr (Is g) w (w.setRow g cs) :=
  ⟨rfl, rfl, rfl, by simp, fun k _ hk => setRow_other w g k _ hk⟩

set_option maxRecDepth 100000 in
set_option maxHeartbeats 400000 in
theorem table_any (w : World) : Calls Try.prog 30 #[] w (RetF (.agg (rowT 16)) w) := by
  have HZ := hide rowT_zero
  go_enter Try.func30, Try.ntmps30
  go_wp2
  go_loopw [3] (fun i wr => ∃ k : Nat, k ≤ 16 ∧ i = .int .i64 k ∧ Hid (wr.heap[w.heap.size]? = some (.cells (rowT k) 54 (0, 0))) ∧ Hid (Fr No w wr)) (fun i _ => 16 - (intOf i).toNat)
  case atStart => exact ⟨0, by omega, rfl, hide (by rw [HZ.out]; exact heap_alloc_new w _), hide ((Fr.refl _ _).alloc _)⟩
  case round =>
    obtain ⟨k, hk, rfl, HH, HF⟩ := hrel
    have hcell : k < 16 → ∃ v, wr.cell? ⟨w.heap.size, k, none⟩ = some v := fun h => by
      rw [cell_of_row _ _ _ _ _ _ HH.out, rowT_get _ _ h]
      exact ⟨_, rfl⟩
    have hfz : wr.frozen? ⟨w.heap.size, k, none⟩ = false := frozen_of_row _ _ _ _ _ HH.out
    by_cases hlt : k < 16
    · obtain ⟨v, hv⟩ := hcell hlt
      clear hcell
      have HN := hide (rowT_set k hlt)
      go_wp2_with (go_at_call 43; refine (tstep_any _ _ (by omega)).mono ?_; rintro en w' ⟨rfl, rfl⟩)
      go_roundw
      case rel => exact ⟨k + 1, by omega, by go_num, hide (by rw [heap_setCell_same _ _ _ _ _ _ HH.out]; exact congrArg (fun r => some (Obj.cells r _ (0, 0))) HN.out), hide ((HF.out).setCell (p := ⟨w.heap.size, k, none⟩) (fun h => absurd h (Nat.lt_irrefl _)) _)⟩
      case measure => simp [intOf]; omega
    · obtain rfl : k = 16 := by omega
      clear hcell
      go_wp2_with (first
        | (refine wpList_load_row rfl 54 _ rfl w.heap.size rfl _ (rowT 16) (0, 0) _ HH.out Try.underlying54 rfl (by kernel_rfl) ?_)
        | (refine wpList_store_row rfl 54 _ _ rfl w.heap.size (rowT 16) rfl rfl 54 (rowT 16) HH.out (by kernel_rfl) rfl (by kernel_rfl) ?_))
      have hg2 : (wr.setRow w.heap.size (rowT 16)).heap[w.heap.size]? = some (.cells (rowT 16) 54 (0, 0)) := setRow_heap wr w.heap.size (rowT 16) _ _ _ HH.out
      refine bodyPost_ret (v := .agg (rowT 16)) (results_cell_row Try.results30 _ _ w.heap.size 54 _ (0, 0) _ rfl hg2 Try.underlying54 rfl (by kernel_rfl)) rfl ⟨rfl, HF.out.trans (Fr.setRow _ _ _) (fun i hi e => ?_)⟩
      have : i = w.heap.size := e
      omega

/-- lists of bytes that are read. -/
def BSl (w : World) (B : Nat) (A : Option Addr) (bss : List (List UInt8)) : Prop :=
  ∀ j bs, bss[j]? = some bs → ∃ ad Aj cj, A = some ad ∧ ad.block < B ∧ w.cell? (ad.add j) = some (.slice Aj bs.length cj) ∧ bs.length ≤ cj ∧ cj ≤ maxLen ∧ Rd w B Aj (by8 bs)
theorem BSl.fr {S : Nat → Prop} {w w' : World} {B : Nat} {A : Option Addr} {bss : List (List UInt8)} (h : BSl w B A bss) (f : Fr S w w') (hS : ∀ k, k < B → ¬ S k) : BSl w' B A bss := fun j bs hj => by
  obtain ⟨ad, Aj, cj, e, hb, hc, h1, h2, hr⟩ := h j bs hj
  exact ⟨ad, Aj, cj, e, hb, f.cell hc (by rw [block_of_add]; exact hS _ hb), h1, h2, hr.fr f hS⟩
theorem BSl.fr0 {w w' : World} {B : Nat} {A : Option Addr} {bss : List (List UInt8)} (h : BSl w B A bss) (f : Fr No w w') : BSl w' B A bss := h.fr f (fun _ _ h => h)
theorem BSl.more {w : World} {B B' : Nat} {A : Option Addr} {bss : List (List UInt8)} (h : BSl w B A bss) (hB : B ≤ B') : BSl w B' A bss := fun j bs hj => by
  obtain ⟨ad, Aj, cj, e, hb, hc, h1, h2, hr⟩ := h j bs hj
  exact ⟨ad, Aj, cj, e, by omega, hc, h1, h2, hr.more hB⟩

theorem BSl.single {w : World} {B n c : Nat} {A : Option Addr} {bs : List UInt8} {e : TypeId} (hn : bs.length = n) (h1 : n ≤ c) (h2 : c ≤ maxLen) (hr : Rd w B A (by8 bs)) (hB : B ≤ w.heap.size) : BSl (w.alloc (.cells #[.slice A n c] e)) (w.heap.size + 1) (some ⟨w.heap.size, 0, none⟩) [bs] := by
  subst hn
  intro j bs' hj
  cases j with
  | zero =>
    injection hj with hj
    subst hj
    refine ⟨_, A, c, rfl, by simp, ?_, h1, h2, (hr.fr0 ((Fr.refl _ _).alloc _)).more (by omega)⟩
    rw [Addr.add_lit, cell_of_row _ w.heap.size (0 + 0) #[.slice A bs.length c] e (0, 0) (heap_alloc_new w _)]
    rfl
  | succ j => simp at hj

theorem tab_cell (w1 : World) (z : Array Value) (j : Nat) (hj : j < 16) : ((w1.alloc (.cells z 54)).setRow w1.heap.size (rowT 16)).cell? ⟨w1.heap.size, j, none⟩ = some (.int .u32 (tb j : Nat)) := by
  rw [cell_of_row _ _ _ _ _ _ (setRow_heap (w1.alloc (.cells z 54)) w1.heap.size z (rowT 16) _ _ (heap_alloc_new w1 _)), rowT_get _ _ hj, if_pos hj]
theorem tab_fr {w w1 : World} (z : Array Value) (F1 : Fr No w w1) : Fr No w ((w1.alloc (.cells z 54)).setRow w1.heap.size (rowT 16)) :=
  (F1.alloc _).trans (Fr.setRow _ _ _) (fun i hi e => by
    have h : i = w1.heap.size := e
    have := F1.size
    omega)

theorem crc_table {x : Nat} : x / 16 ^^^ tb (x % 16) = crcN 4 x := (crc4 x).symm

set_option maxRecDepth 100000 in
set_option maxHeartbeats 800000 in
theorem sum_any (A : Option Addr) (n c B : Nat) (bss : List (List UInt8)) (w : World) (hl : bss.length = n) (hn : n ≤ c) (hc : c ≤ maxLen) (hB : B ≤ w.heap.size) (hr : BSl w B A bss) :
    Calls Try.prog 13 #[.slice A n c] w (RetF (.int .u32 (crcOf bss.flatten : Nat)) w) := by
  unfold maxLen at hc
  have HR := hide hr
  have HL := hide hl
  clear hr hl
  go_enter Try.func13, Try.ntmps13
  go_wp2_with (first
    | (go_at_call 30; refine (table_any _).mono ?_; rintro en w1 ⟨rfl, hfr⟩; have F1 := hide hfr; clear hfr)
    | (refine wpList_store_row rfl 54 _ _ rfl w1.heap.size (rowT 16) rfl rfl 54 _ (heap_alloc_new w1 _) (by kernel_rfl) rfl (by kernel_rfl) ?_))
  go_loopw [4, 12] (fun c i wr => ∃ (k y : Nat), k ≤ n ∧ i = .int .i64 k ∧ c = .int .u32 (y : Nat) ∧ y < 4294967296 ∧ Hid (y = reg 4294967295 (bss.take k).flatten) ∧ Hid (∀ j, j < 16 → wr.cell? ⟨w1.heap.size, j, none⟩ = some (.int .u32 (tb j : Nat))) ∧ Hid (Fr No w wr)) (fun _ i _ => n - (intOf i).toNat)
  case atStart => exact ⟨0, 4294967295, by omega, rfl, rfl, by decide, hide rfl, hide (fun j hj => tab_cell w1 _ j hj), hide (tab_fr _ F1.out)⟩
  case round =>
    obtain ⟨k, y, hk, rfl, rfl, hy, HY, HT, HF⟩ := hrel
    by_cases hlt : k < n
    · obtain ⟨bs, hx⟩ : ∃ bs, bss[k]? = some bs := ⟨_, List.getElem?_eq_getElem (by rw [HL.out]; exact hlt)⟩
      obtain ⟨ad, Aj, cj, rfl, _, hcell, hj1, hj2, hrj⟩ := (HR.out.fr0 HF.out) k bs hx
      have HRJ := hide hrj
      have HTk := hide (show (bss.take (k + 1)).flatten = (bss.take k).flatten ++ bs by
        obtain ⟨h1, h2⟩ := List.getElem?_eq_some_iff.1 hx
        rw [List.take_succ_eq_append_getElem h1, List.flatten_append, h2]
        simp)
      obtain ⟨m, hm⟩ : ∃ m, m = bs.length := ⟨_, rfl⟩
      rw [← hm] at hcell hj1
      have HM := hide hm
      unfold maxLen at hj2
      clear hrj hx hm
      obtain ⟨wo, rfl⟩ : ∃ wo : World, wo = wr := ⟨_, rfl⟩
      go_wp2
      go_loopw [4, 18] (fun c i wr => ∃ (j y nq : Nat), j ≤ m ∧ i = .int .i64 j ∧ c = .int .u32 (y : Nat) ∧ y < 4294967296 ∧ Hid (y = reg 4294967295 ((bss.take k).flatten ++ bs.take j)) ∧ wr = wo.drewN nq) (fun _ i _ => m - (intOf i).toNat)
      case atStart => exact ⟨0, y, 0, by omega, rfl, rfl, hy, hide (by rw [HY.out]; simp), rfl⟩
      case round =>
        clear HY hy
        obtain ⟨j, y, nq, hj, rfl, rfl, hy, HY, rfl⟩ := hrel
        by_cases hlt2 : j < m
        · have h1 : j < bs.length := by rw [← HM.out]; exact hlt2
          obtain ⟨ad2, rfl, _, hcell2⟩ := HRJ.out.byte h1
          have HSn := hide (take_snoc8 h1)
          clear h1
          generalize bs.getD j 0 = b at hcell2 HSn
          have hb := b.toNat_lt
          obtain ⟨x, HX⟩ : ∃ x, Hid (x = y ^^^ b.toNat) := ⟨_, hide rfl⟩
          have hx : x < 4294967296 := by rw [HX.out]; exact xor_lt32 hy (by omega)
          have e1 : bits .xor .u32 (y : Int) (b.toNat : Int) = (x : Int) := by rw [HX.out]; exact u32_xor_nat y b.toNat hy (by omega)
          obtain ⟨j1, HJ1⟩ : ∃ j1, Hid (j1 = x % 16) := ⟨_, hide rfl⟩
          have hj1' : j1 < 16 := by rw [HJ1.out]; omega
          have e2 : bits .and .u32 (x : Int) 15 = (j1 : Int) := by rw [HJ1.out]; exact crc_and15 x hx
          have t1 := HT.out j1 hj1'
          obtain ⟨z, HZ⟩ : ∃ z, Hid (z = crcN 4 x) := ⟨_, hide rfl⟩
          have hz : z < 4294967296 := by rw [HZ.out]; exact crcN_lt 4 hx
          have e3 : bits .xor .u32 ((x : Int) / 16) (tb j1 : Nat) = (z : Int) := by
            rw [HZ.out, ← crc_table, ← HJ1.out]
            exact u32_xor_nat (x / 16) (tb j1) (by omega) (tb_lt hj1')
          obtain ⟨j2, HJ2⟩ : ∃ j2, Hid (j2 = z % 16) := ⟨_, hide rfl⟩
          have hj2' : j2 < 16 := by rw [HJ2.out]; omega
          have e4 : bits .and .u32 (z : Int) 15 = (j2 : Int) := by rw [HJ2.out]; exact crc_and15 z hz
          have t2 := HT.out j2 hj2'
          obtain ⟨v, HV⟩ : ∃ v, Hid (v = crcN 4 z) := ⟨_, hide rfl⟩
          have hv : v < 4294967296 := by rw [HV.out]; exact crcN_lt 4 hz
          have e5 : bits .xor .u32 ((z : Int) / 16) (tb j2 : Nat) = (v : Int) := by
            rw [HV.out, ← crc_table, ← HJ2.out]
            exact u32_xor_nat (z / 16) (tb j2) (by omega) (tb_lt hj2')
          generalize tb j1 = a1 at t1 e3
          generalize tb j2 = a2 at t2 e5
          have HN := hide (show v = reg 4294967295 ((bss.take k).flatten ++ bs.take (j + 1)) by
            rw [HSn.out, ← List.append_assoc, reg_snoc, ← HY.out, ← HX.out, crc8, ← HZ.out, HV.out])
          go_wp2
          go_roundw
          case rel => exact ⟨j + 1, v, _, by omega, by go_num, rfl, hv, HN, rfl⟩
          case measure => simp [intOf]; omega
        · obtain rfl : j = m := by omega
          go_wp2
          have HN := hide (show y = reg 4294967295 (bss.take (k + 1)).flatten by
            rw [HTk.out, HY.out, List.take_of_length_le (Nat.le_of_eq HM.out.symm)])
          go_roundw
          case rel => exact ⟨k + 1, y, by omega, by go_num, rfl, hy, HN, HT, hide (HF.out.drewN _)⟩
          case measure => simp [intOf]; omega
    · obtain rfl : k = n := by omega
      go_wp2
      go_ret
      refine ⟨?_, HF.out⟩
      have e : bits .xor .u32 IntKind.u32.max (y : Int) = ((crcOf bss.flatten : Nat) : Int) := by
        have h := u32_xor_nat 4294967295 y (by omega) hy
        rw [Nat.xor_comm, HY.out, List.take_of_length_le (Nat.le_of_eq HL.out)] at h
        rw [HY.out, List.take_of_length_le (Nat.le_of_eq HL.out)]
        exact h
      rw [← e]
      rfl
end Go.Proofs.Ytapfbjaopbcgjaa
