/- The walk of LiveOn: it answers true; nothing that was there has changed. Condition: the library's table lies as laid. -/
import Derived.Test.YtapfbjaopbcgjaaDoorLiveOnP
namespace Go.Proofs.YtapfbjaopbcgjaaDoor
set_option linter.unusedVariables false
set_option linter.unusedSimpArgs false
open Go.RowKit


set_option maxRecDepth 100000 in
set_option maxHeartbeats 2000000 in
theorem liveOn_keep (A1 A2 : Option Addr) (n c1 m c2 : Nat) (seqs dead : List Int) (S R : Int) (w : World) (hT : Tab w) (h1 : seqs.length = n) (h2 : dead.length = m) (q1 : n ≤ c1) (q2 : c1 ≤ maxLen) (q3 : m ≤ c2) (q4 : c2 ≤ maxLen) (hr1 : Rd w w.heap.size A1 (iz .u64 seqs)) (hr2 : Rd w w.heap.size A2 (iz .u64 dead)) (hRS : R ≤ S) (hdd : decide (S < R) = false) :
    Calls Tryd.prog 4 #[.slice A1 n c1, .slice A2 m c2, .int .u64 S, .int .u64 R] w (RetB true w) := by
  have HAw := hide (fun W (f : Fr No w W) => awake14_any W (hT.fr0 f))
  have HL1 := hide h1
  have HL2 := hide h2
  have R1 := hide hr1
  have R2 := hide hr2
  have HQ2 := hide q2
  have HQ4 := hide q4
  unfold maxLen at q2 q4
  clear h1 h2 hr1 hr2 hT
  by_cases hbig : 500 < n
  · have hd : decide ((500 : Int) < (n : Int)) = true := decide_eq_true (by omega)
    go_enter Tryd.func4, Tryd.ntmps4
    go_wp2_with (go_at_call 9; refine (HAw.out w (Fr.refl _ _)).mono ?_; rintro en w1 ⟨rfl, hfr⟩; have F1 := hide hfr; clear hfr)
    go_ret
    exact ⟨rfl, F1.out⟩
  · have hd : decide ((500 : Int) < (n : Int)) = false := decide_eq_false (by omega)
    have HA := hide (fun S W (f : Fr No w W) => at_any A1 A2 n c1 m c2 w.heap.size w.heap.size seqs dead S W HL1.out HL2.out q1 HQ2.out q3 HQ4.out (by omega) f.size f.size (R1.out.fr0 f) (R2.out.fr0 f))
    have hal := fun S => (show (atB seqs dead S).length = n by simp [atB, HL1.out])
    have HAl := hide hal
    have HRS := hide hRS
    clear hal hRS
    have hnn : ((n : Int) == (n : Int)) = true := by simp
    have hn5 : n ≤ 500 := by omega
    clear hbig
    go_enter Tryd.func4, Tryd.ntmps4
    go_wp2_with (fail)
    refine (HAw.out w (Fr.refl _ _)).mono ?_
    rintro en w1 ⟨rfl, hfr⟩
    have F1 := hide hfr
    clear hfr
    go_wp2_with (fail)
    refine (HA.out S w1 F1.out).mono ?_
    rintro en w2 ⟨g1, gw1, rfl, hbt, hfr⟩
    have B1 := hide hbt
    have F2 := hide (F1.out.tr hfr)
    clear hbt hfr
    go_wp2_with (fail)
    refine (HA.out R w2 F2.out).mono ?_
    rintro en w3 ⟨g2, gw2, rfl, hbt, hfr⟩
    have B2 := hide hbt
    have B13 := hide (B1.out.fr0 hfr)
    have F3 := hide (F2.out.tr hfr)
    clear hbt hfr B1
    have HH1 := hide (fun k => has_any _ (.pointer (some ⟨g1, 0, none⟩)) (atB seqs dead S) k w3 (.inr ⟨g1, gw1, rfl, B13.out⟩))
    have HH2 := hide (fun k => has_any _ (.pointer (some ⟨g2, 0, none⟩)) (atB seqs dead R) k w3 (.inr ⟨g2, gw2, rfl, B2.out⟩))
    have HLn := hide (len_any _ (.pointer (some ⟨g1, 0, none⟩)) (atB seqs dead S) w3 (.inr ⟨g1, gw1, rfl, B13.out⟩))
    rw [HAl.out] at HLn
    clear HA hdd HAw F1 F2 B2 B13
    go_wp2_with (fail)
    go_loop [11] (fun i => ∃ k : Nat, k ≤ n ∧ i = .int .i64 k) (fun i => n - (intOf i).toNat)
    case atStart => exact ⟨0, by omega, rfl⟩
    case round =>
      obtain ⟨k, hk, rfl⟩ := hrel
      by_cases hlt : k < n
      · obtain ⟨ad, rfl, had, hcell⟩ := (R1.out.fr0 F3.out).intAt (j := k) (by rw [HL1.out]; exact hlt)
        have HK1 := HH1.out (k : Nat)
        have HK2 := HH2.out (k : Nat)
        rw [hasI_at seqs dead _ (by rw [HL1.out]; exact hlt), HL2.out] at HK1 HK2
        have HJ1 := hide HK1
        have HJ2 := hide HK2
        have hdc : k < m → ∃ bd, A2 = some bd ∧ bd.block < w.heap.size ∧ w3.cell? (bd.add k) = some (.int .u64 (dead.getD k 0)) := fun h => (R2.out.fr0 F3.out).intAt (by rw [HL2.out]; exact h)
        clear HK1 HK2 HH1 HH2 HLn HAl R1 R2
        generalize seqs.getD k 0 = x at hcell HJ1 HJ2
        generalize dead.getD k 0 = y at hdc HJ1 HJ2
        have hL := on_leaf x y R S m k HRS.out
        clear HRS
        rcases hL with ⟨hm, e1, e2, b1, b2⟩ | ⟨hm, e1, e2, e3, b1, b2⟩ | ⟨hm, e1, e2, e3, e4, e5, b1, b2⟩ | ⟨hm, e1, e2, e3, e4, e5, b1, b2⟩ | ⟨hm, e1, e2, e3, e4, e5, b1, b2⟩ | ⟨hm, e1, e2, b1, b2⟩ | ⟨hm, e1, e2, e3, b1, b2⟩ | ⟨hm, e1, e2, e3, e4, e5, b1, b2⟩ | ⟨hm, e1, e2, e3, e4, e5, b1, b2⟩ | ⟨hm, e1, e2, e3, e4, e5, b1, b2⟩ | ⟨hm, e1, e2, b1, b2⟩ | ⟨hm, e1, e2, e3, b1, b2⟩ | ⟨hm, e1, e2, e3, e4, e5, b1, b2⟩ | ⟨hm, e1, e2, e3, e4, e5, b1, b2⟩ | ⟨hm, e1, e2, e3, e4, e5, b1, b2⟩
        · rw [b1] at HJ1
          rw [b2] at HJ2
          clear b1 b2 hdc
          go_wp2_with (fail)
          refine HJ1.out.mono ?_
          rintro en wx ⟨rfl, rfl⟩
          go_wp2_with (fail)
          refine HJ2.out.mono ?_
          rintro en wx ⟨rfl, rfl⟩
          go_wp2_with (fail)
          refine HJ2.out.mono ?_
          rintro en wx ⟨rfl, rfl⟩
          go_wp2_with (fail)
          refine HJ1.out.mono ?_
          rintro en wx ⟨rfl, rfl⟩
          go_wp2_with (fail)
          refine HJ1.out.mono ?_
          rintro en wx ⟨rfl, rfl⟩
          go_wp2_with (fail)
          go_round
          case rel => exact ⟨k + 1, by omega, by go_num⟩
          case measure => simp [intOf]; omega
        · rw [b1] at HJ1
          rw [b2] at HJ2
          obtain ⟨bd, rfl, hbd, hcell2⟩ := hdc hm
          clear b1 b2 hdc
          go_wp2_with (fail)
          refine HJ1.out.mono ?_
          rintro en wx ⟨rfl, rfl⟩
          go_wp2_with (fail)
          refine HJ2.out.mono ?_
          rintro en wx ⟨rfl, rfl⟩
          go_wp2_with (fail)
          refine HJ2.out.mono ?_
          rintro en wx ⟨rfl, rfl⟩
          go_wp2_with (fail)
          refine HJ1.out.mono ?_
          rintro en wx ⟨rfl, rfl⟩
          go_wp2_with (fail)
          refine HJ1.out.mono ?_
          rintro en wx ⟨rfl, rfl⟩
          go_wp2_with (fail)
          go_round
          case rel => exact ⟨k + 1, by omega, by go_num⟩
          case measure => simp [intOf]; omega
        · rw [b1] at HJ1
          rw [b2] at HJ2
          obtain ⟨bd, rfl, hbd, hcell2⟩ := hdc hm
          clear b1 b2 hdc
          go_wp2_with (fail)
          refine HJ1.out.mono ?_
          rintro en wx ⟨rfl, rfl⟩
          go_wp2_with (fail)
          refine HJ2.out.mono ?_
          rintro en wx ⟨rfl, rfl⟩
          go_wp2_with (fail)
          refine HJ1.out.mono ?_
          rintro en wx ⟨rfl, rfl⟩
          go_wp2_with (fail)
          refine HJ2.out.mono ?_
          rintro en wx ⟨rfl, rfl⟩
          go_wp2_with (fail)
          refine HJ1.out.mono ?_
          rintro en wx ⟨rfl, rfl⟩
          go_wp2_with (fail)
          go_round
          case rel => exact ⟨k + 1, by omega, by go_num⟩
          case measure => simp [intOf]; omega
        · rw [b1] at HJ1
          rw [b2] at HJ2
          obtain ⟨bd, rfl, hbd, hcell2⟩ := hdc hm
          clear b1 b2 hdc
          go_wp2_with (fail)
          refine HJ1.out.mono ?_
          rintro en wx ⟨rfl, rfl⟩
          go_wp2_with (fail)
          refine HJ2.out.mono ?_
          rintro en wx ⟨rfl, rfl⟩
          go_wp2_with (fail)
          refine HJ1.out.mono ?_
          rintro en wx ⟨rfl, rfl⟩
          go_wp2_with (fail)
          refine HJ1.out.mono ?_
          rintro en wx ⟨rfl, rfl⟩
          go_wp2_with (fail)
          go_round
          case rel => exact ⟨k + 1, by omega, by go_num⟩
          case measure => simp [intOf]; omega
        · rw [b1] at HJ1
          rw [b2] at HJ2
          obtain ⟨bd, rfl, hbd, hcell2⟩ := hdc hm
          clear b1 b2 hdc
          go_wp2_with (fail)
          refine HJ1.out.mono ?_
          rintro en wx ⟨rfl, rfl⟩
          go_wp2_with (fail)
          refine HJ2.out.mono ?_
          rintro en wx ⟨rfl, rfl⟩
          go_wp2_with (fail)
          refine HJ2.out.mono ?_
          rintro en wx ⟨rfl, rfl⟩
          go_wp2_with (fail)
          refine HJ1.out.mono ?_
          rintro en wx ⟨rfl, rfl⟩
          go_wp2_with (fail)
          refine HJ1.out.mono ?_
          rintro en wx ⟨rfl, rfl⟩
          go_wp2_with (fail)
          go_round
          case rel => exact ⟨k + 1, by omega, by go_num⟩
          case measure => simp [intOf]; omega
        · rw [b1] at HJ1
          rw [b2] at HJ2
          clear b1 b2 hdc
          go_wp2_with (fail)
          refine HJ1.out.mono ?_
          rintro en wx ⟨rfl, rfl⟩
          go_wp2_with (fail)
          refine HJ2.out.mono ?_
          rintro en wx ⟨rfl, rfl⟩
          go_wp2_with (fail)
          refine HJ1.out.mono ?_
          rintro en wx ⟨rfl, rfl⟩
          go_wp2_with (fail)
          go_round
          case rel => exact ⟨k + 1, by omega, by go_num⟩
          case measure => simp [intOf]; omega
        · rw [b1] at HJ1
          rw [b2] at HJ2
          obtain ⟨bd, rfl, hbd, hcell2⟩ := hdc hm
          clear b1 b2 hdc
          go_wp2_with (fail)
          refine HJ1.out.mono ?_
          rintro en wx ⟨rfl, rfl⟩
          go_wp2_with (fail)
          refine HJ2.out.mono ?_
          rintro en wx ⟨rfl, rfl⟩
          go_wp2_with (fail)
          refine HJ1.out.mono ?_
          rintro en wx ⟨rfl, rfl⟩
          go_wp2_with (fail)
          go_round
          case rel => exact ⟨k + 1, by omega, by go_num⟩
          case measure => simp [intOf]; omega
        · rw [b1] at HJ1
          rw [b2] at HJ2
          obtain ⟨bd, rfl, hbd, hcell2⟩ := hdc hm
          clear b1 b2 hdc
          go_wp2_with (fail)
          refine HJ1.out.mono ?_
          rintro en wx ⟨rfl, rfl⟩
          go_wp2_with (fail)
          refine HJ2.out.mono ?_
          rintro en wx ⟨rfl, rfl⟩
          go_wp2_with (fail)
          refine HJ1.out.mono ?_
          rintro en wx ⟨rfl, rfl⟩
          go_wp2_with (fail)
          refine HJ2.out.mono ?_
          rintro en wx ⟨rfl, rfl⟩
          go_wp2_with (fail)
          refine HJ1.out.mono ?_
          rintro en wx ⟨rfl, rfl⟩
          go_wp2_with (fail)
          go_round
          case rel => exact ⟨k + 1, by omega, by go_num⟩
          case measure => simp [intOf]; omega
        · rw [b1] at HJ1
          rw [b2] at HJ2
          obtain ⟨bd, rfl, hbd, hcell2⟩ := hdc hm
          clear b1 b2 hdc
          go_wp2_with (fail)
          refine HJ1.out.mono ?_
          rintro en wx ⟨rfl, rfl⟩
          go_wp2_with (fail)
          refine HJ2.out.mono ?_
          rintro en wx ⟨rfl, rfl⟩
          go_wp2_with (fail)
          refine HJ1.out.mono ?_
          rintro en wx ⟨rfl, rfl⟩
          go_wp2_with (fail)
          go_round
          case rel => exact ⟨k + 1, by omega, by go_num⟩
          case measure => simp [intOf]; omega
        · rw [b1] at HJ1
          rw [b2] at HJ2
          obtain ⟨bd, rfl, hbd, hcell2⟩ := hdc hm
          clear b1 b2 hdc
          go_wp2_with (fail)
          refine HJ1.out.mono ?_
          rintro en wx ⟨rfl, rfl⟩
          go_wp2_with (fail)
          refine HJ2.out.mono ?_
          rintro en wx ⟨rfl, rfl⟩
          go_wp2_with (fail)
          refine HJ1.out.mono ?_
          rintro en wx ⟨rfl, rfl⟩
          go_wp2_with (fail)
          go_round
          case rel => exact ⟨k + 1, by omega, by go_num⟩
          case measure => simp [intOf]; omega
        · rw [b1] at HJ1
          rw [b2] at HJ2
          clear b1 b2 hdc
          go_wp2_with (fail)
          refine HJ1.out.mono ?_
          rintro en wx ⟨rfl, rfl⟩
          go_wp2_with (fail)
          refine HJ2.out.mono ?_
          rintro en wx ⟨rfl, rfl⟩
          go_wp2_with (fail)
          refine HJ1.out.mono ?_
          rintro en wx ⟨rfl, rfl⟩
          go_wp2_with (fail)
          go_round
          case rel => exact ⟨k + 1, by omega, by go_num⟩
          case measure => simp [intOf]; omega
        · rw [b1] at HJ1
          rw [b2] at HJ2
          obtain ⟨bd, rfl, hbd, hcell2⟩ := hdc hm
          clear b1 b2 hdc
          go_wp2_with (fail)
          refine HJ1.out.mono ?_
          rintro en wx ⟨rfl, rfl⟩
          go_wp2_with (fail)
          refine HJ2.out.mono ?_
          rintro en wx ⟨rfl, rfl⟩
          go_wp2_with (fail)
          refine HJ1.out.mono ?_
          rintro en wx ⟨rfl, rfl⟩
          go_wp2_with (fail)
          go_round
          case rel => exact ⟨k + 1, by omega, by go_num⟩
          case measure => simp [intOf]; omega
        · rw [b1] at HJ1
          rw [b2] at HJ2
          obtain ⟨bd, rfl, hbd, hcell2⟩ := hdc hm
          clear b1 b2 hdc
          go_wp2_with (fail)
          refine HJ1.out.mono ?_
          rintro en wx ⟨rfl, rfl⟩
          go_wp2_with (fail)
          refine HJ2.out.mono ?_
          rintro en wx ⟨rfl, rfl⟩
          go_wp2_with (fail)
          refine HJ1.out.mono ?_
          rintro en wx ⟨rfl, rfl⟩
          go_wp2_with (fail)
          refine HJ2.out.mono ?_
          rintro en wx ⟨rfl, rfl⟩
          go_wp2_with (fail)
          refine HJ1.out.mono ?_
          rintro en wx ⟨rfl, rfl⟩
          go_wp2_with (fail)
          go_round
          case rel => exact ⟨k + 1, by omega, by go_num⟩
          case measure => simp [intOf]; omega
        · rw [b1] at HJ1
          rw [b2] at HJ2
          obtain ⟨bd, rfl, hbd, hcell2⟩ := hdc hm
          clear b1 b2 hdc
          go_wp2_with (fail)
          refine HJ1.out.mono ?_
          rintro en wx ⟨rfl, rfl⟩
          go_wp2_with (fail)
          refine HJ2.out.mono ?_
          rintro en wx ⟨rfl, rfl⟩
          go_wp2_with (fail)
          refine HJ1.out.mono ?_
          rintro en wx ⟨rfl, rfl⟩
          go_wp2_with (fail)
          go_round
          case rel => exact ⟨k + 1, by omega, by go_num⟩
          case measure => simp [intOf]; omega
        · rw [b1] at HJ1
          rw [b2] at HJ2
          obtain ⟨bd, rfl, hbd, hcell2⟩ := hdc hm
          clear b1 b2 hdc
          go_wp2_with (fail)
          refine HJ1.out.mono ?_
          rintro en wx ⟨rfl, rfl⟩
          go_wp2_with (fail)
          refine HJ2.out.mono ?_
          rintro en wx ⟨rfl, rfl⟩
          go_wp2_with (fail)
          refine HJ1.out.mono ?_
          rintro en wx ⟨rfl, rfl⟩
          go_wp2_with (fail)
          go_round
          case rel => exact ⟨k + 1, by omega, by go_num⟩
          case measure => simp [intOf]; omega
      · obtain rfl : k = n := by omega
        go_wp2_with (go_at_call 16; refine HLn.out.mono ?_; rintro en wx ⟨rfl, rfl⟩)
        go_ret
        exact ⟨rfl, F3.out⟩

set_option maxRecDepth 100000 in
set_option maxHeartbeats 2000000 in
theorem liveOn_swap (A1 A2 : Option Addr) (n c1 m c2 : Nat) (seqs dead : List Int) (S R : Int) (w : World) (hT : Tab w) (h1 : seqs.length = n) (h2 : dead.length = m) (q1 : n ≤ c1) (q2 : c1 ≤ maxLen) (q3 : m ≤ c2) (q4 : c2 ≤ maxLen) (hr1 : Rd w w.heap.size A1 (iz .u64 seqs)) (hr2 : Rd w w.heap.size A2 (iz .u64 dead)) (hRS : R ≤ S) (hdd : decide (R < S) = true) :
    Calls Tryd.prog 4 #[.slice A1 n c1, .slice A2 m c2, .int .u64 R, .int .u64 S] w (RetB true w) := by
  have HAw := hide (fun W (f : Fr No w W) => awake14_any W (hT.fr0 f))
  have HL1 := hide h1
  have HL2 := hide h2
  have R1 := hide hr1
  have R2 := hide hr2
  have HQ2 := hide q2
  have HQ4 := hide q4
  unfold maxLen at q2 q4
  clear h1 h2 hr1 hr2 hT
  by_cases hbig : 500 < n
  · have hd : decide ((500 : Int) < (n : Int)) = true := decide_eq_true (by omega)
    go_enter Tryd.func4, Tryd.ntmps4
    go_wp2_with (go_at_call 9; refine (HAw.out w (Fr.refl _ _)).mono ?_; rintro en w1 ⟨rfl, hfr⟩; have F1 := hide hfr; clear hfr)
    go_ret
    exact ⟨rfl, F1.out⟩
  · have hd : decide ((500 : Int) < (n : Int)) = false := decide_eq_false (by omega)
    have HA := hide (fun S W (f : Fr No w W) => at_any A1 A2 n c1 m c2 w.heap.size w.heap.size seqs dead S W HL1.out HL2.out q1 HQ2.out q3 HQ4.out (by omega) f.size f.size (R1.out.fr0 f) (R2.out.fr0 f))
    have hal := fun S => (show (atB seqs dead S).length = n by simp [atB, HL1.out])
    have HAl := hide hal
    have HRS := hide hRS
    clear hal hRS
    have hnn : ((n : Int) == (n : Int)) = true := by simp
    have hn5 : n ≤ 500 := by omega
    clear hbig
    go_enter Tryd.func4, Tryd.ntmps4
    go_wp2_with (fail)
    refine (HAw.out w (Fr.refl _ _)).mono ?_
    rintro en w1 ⟨rfl, hfr⟩
    have F1 := hide hfr
    clear hfr
    go_wp2_with (fail)
    refine (HA.out S w1 F1.out).mono ?_
    rintro en w2 ⟨g1, gw1, rfl, hbt, hfr⟩
    have B1 := hide hbt
    have F2 := hide (F1.out.tr hfr)
    clear hbt hfr
    go_wp2_with (fail)
    refine (HA.out R w2 F2.out).mono ?_
    rintro en w3 ⟨g2, gw2, rfl, hbt, hfr⟩
    have B2 := hide hbt
    have B13 := hide (B1.out.fr0 hfr)
    have F3 := hide (F2.out.tr hfr)
    clear hbt hfr B1
    have HH1 := hide (fun k => has_any _ (.pointer (some ⟨g1, 0, none⟩)) (atB seqs dead S) k w3 (.inr ⟨g1, gw1, rfl, B13.out⟩))
    have HH2 := hide (fun k => has_any _ (.pointer (some ⟨g2, 0, none⟩)) (atB seqs dead R) k w3 (.inr ⟨g2, gw2, rfl, B2.out⟩))
    have HLn := hide (len_any _ (.pointer (some ⟨g1, 0, none⟩)) (atB seqs dead S) w3 (.inr ⟨g1, gw1, rfl, B13.out⟩))
    rw [HAl.out] at HLn
    clear HA hdd HAw F1 F2 B2 B13
    go_wp2_with (fail)
    go_loop [11] (fun i => ∃ k : Nat, k ≤ n ∧ i = .int .i64 k) (fun i => n - (intOf i).toNat)
    case atStart => exact ⟨0, by omega, rfl⟩
    case round =>
      obtain ⟨k, hk, rfl⟩ := hrel
      by_cases hlt : k < n
      · obtain ⟨ad, rfl, had, hcell⟩ := (R1.out.fr0 F3.out).intAt (j := k) (by rw [HL1.out]; exact hlt)
        have HK1 := HH1.out (k : Nat)
        have HK2 := HH2.out (k : Nat)
        rw [hasI_at seqs dead _ (by rw [HL1.out]; exact hlt), HL2.out] at HK1 HK2
        have HJ1 := hide HK1
        have HJ2 := hide HK2
        have hdc : k < m → ∃ bd, A2 = some bd ∧ bd.block < w.heap.size ∧ w3.cell? (bd.add k) = some (.int .u64 (dead.getD k 0)) := fun h => (R2.out.fr0 F3.out).intAt (by rw [HL2.out]; exact h)
        clear HK1 HK2 HH1 HH2 HLn HAl R1 R2
        generalize seqs.getD k 0 = x at hcell HJ1 HJ2
        generalize dead.getD k 0 = y at hdc HJ1 HJ2
        have hL := on_leaf x y R S m k HRS.out
        clear HRS
        rcases hL with ⟨hm, e1, e2, b1, b2⟩ | ⟨hm, e1, e2, e3, b1, b2⟩ | ⟨hm, e1, e2, e3, e4, e5, b1, b2⟩ | ⟨hm, e1, e2, e3, e4, e5, b1, b2⟩ | ⟨hm, e1, e2, e3, e4, e5, b1, b2⟩ | ⟨hm, e1, e2, b1, b2⟩ | ⟨hm, e1, e2, e3, b1, b2⟩ | ⟨hm, e1, e2, e3, e4, e5, b1, b2⟩ | ⟨hm, e1, e2, e3, e4, e5, b1, b2⟩ | ⟨hm, e1, e2, e3, e4, e5, b1, b2⟩ | ⟨hm, e1, e2, b1, b2⟩ | ⟨hm, e1, e2, e3, b1, b2⟩ | ⟨hm, e1, e2, e3, e4, e5, b1, b2⟩ | ⟨hm, e1, e2, e3, e4, e5, b1, b2⟩ | ⟨hm, e1, e2, e3, e4, e5, b1, b2⟩
        · rw [b1] at HJ1
          rw [b2] at HJ2
          clear b1 b2 hdc
          go_wp2_with (fail)
          refine HJ1.out.mono ?_
          rintro en wx ⟨rfl, rfl⟩
          go_wp2_with (fail)
          refine HJ2.out.mono ?_
          rintro en wx ⟨rfl, rfl⟩
          go_wp2_with (fail)
          refine HJ2.out.mono ?_
          rintro en wx ⟨rfl, rfl⟩
          go_wp2_with (fail)
          refine HJ1.out.mono ?_
          rintro en wx ⟨rfl, rfl⟩
          go_wp2_with (fail)
          refine HJ1.out.mono ?_
          rintro en wx ⟨rfl, rfl⟩
          go_wp2_with (fail)
          go_round
          case rel => exact ⟨k + 1, by omega, by go_num⟩
          case measure => simp [intOf]; omega
        · rw [b1] at HJ1
          rw [b2] at HJ2
          obtain ⟨bd, rfl, hbd, hcell2⟩ := hdc hm
          clear b1 b2 hdc
          go_wp2_with (fail)
          refine HJ1.out.mono ?_
          rintro en wx ⟨rfl, rfl⟩
          go_wp2_with (fail)
          refine HJ2.out.mono ?_
          rintro en wx ⟨rfl, rfl⟩
          go_wp2_with (fail)
          refine HJ2.out.mono ?_
          rintro en wx ⟨rfl, rfl⟩
          go_wp2_with (fail)
          refine HJ1.out.mono ?_
          rintro en wx ⟨rfl, rfl⟩
          go_wp2_with (fail)
          refine HJ1.out.mono ?_
          rintro en wx ⟨rfl, rfl⟩
          go_wp2_with (fail)
          go_round
          case rel => exact ⟨k + 1, by omega, by go_num⟩
          case measure => simp [intOf]; omega
        · rw [b1] at HJ1
          rw [b2] at HJ2
          obtain ⟨bd, rfl, hbd, hcell2⟩ := hdc hm
          clear b1 b2 hdc
          go_wp2_with (fail)
          refine HJ1.out.mono ?_
          rintro en wx ⟨rfl, rfl⟩
          go_wp2_with (fail)
          refine HJ2.out.mono ?_
          rintro en wx ⟨rfl, rfl⟩
          go_wp2_with (fail)
          refine HJ1.out.mono ?_
          rintro en wx ⟨rfl, rfl⟩
          go_wp2_with (fail)
          refine HJ2.out.mono ?_
          rintro en wx ⟨rfl, rfl⟩
          go_wp2_with (fail)
          refine HJ1.out.mono ?_
          rintro en wx ⟨rfl, rfl⟩
          go_wp2_with (fail)
          go_round
          case rel => exact ⟨k + 1, by omega, by go_num⟩
          case measure => simp [intOf]; omega
        · rw [b1] at HJ1
          rw [b2] at HJ2
          obtain ⟨bd, rfl, hbd, hcell2⟩ := hdc hm
          clear b1 b2 hdc
          go_wp2_with (fail)
          refine HJ1.out.mono ?_
          rintro en wx ⟨rfl, rfl⟩
          go_wp2_with (fail)
          refine HJ2.out.mono ?_
          rintro en wx ⟨rfl, rfl⟩
          go_wp2_with (fail)
          refine HJ1.out.mono ?_
          rintro en wx ⟨rfl, rfl⟩
          go_wp2_with (fail)
          refine HJ1.out.mono ?_
          rintro en wx ⟨rfl, rfl⟩
          go_wp2_with (fail)
          go_round
          case rel => exact ⟨k + 1, by omega, by go_num⟩
          case measure => simp [intOf]; omega
        · rw [b1] at HJ1
          rw [b2] at HJ2
          obtain ⟨bd, rfl, hbd, hcell2⟩ := hdc hm
          clear b1 b2 hdc
          go_wp2_with (fail)
          refine HJ1.out.mono ?_
          rintro en wx ⟨rfl, rfl⟩
          go_wp2_with (fail)
          refine HJ2.out.mono ?_
          rintro en wx ⟨rfl, rfl⟩
          go_wp2_with (fail)
          refine HJ2.out.mono ?_
          rintro en wx ⟨rfl, rfl⟩
          go_wp2_with (fail)
          refine HJ1.out.mono ?_
          rintro en wx ⟨rfl, rfl⟩
          go_wp2_with (fail)
          refine HJ1.out.mono ?_
          rintro en wx ⟨rfl, rfl⟩
          go_wp2_with (fail)
          go_round
          case rel => exact ⟨k + 1, by omega, by go_num⟩
          case measure => simp [intOf]; omega
        · rw [b1] at HJ1
          rw [b2] at HJ2
          clear b1 b2 hdc
          go_wp2_with (fail)
          refine HJ1.out.mono ?_
          rintro en wx ⟨rfl, rfl⟩
          go_wp2_with (fail)
          refine HJ2.out.mono ?_
          rintro en wx ⟨rfl, rfl⟩
          go_wp2_with (fail)
          refine HJ1.out.mono ?_
          rintro en wx ⟨rfl, rfl⟩
          go_wp2_with (fail)
          go_round
          case rel => exact ⟨k + 1, by omega, by go_num⟩
          case measure => simp [intOf]; omega
        · rw [b1] at HJ1
          rw [b2] at HJ2
          obtain ⟨bd, rfl, hbd, hcell2⟩ := hdc hm
          clear b1 b2 hdc
          go_wp2_with (fail)
          refine HJ1.out.mono ?_
          rintro en wx ⟨rfl, rfl⟩
          go_wp2_with (fail)
          refine HJ2.out.mono ?_
          rintro en wx ⟨rfl, rfl⟩
          go_wp2_with (fail)
          refine HJ1.out.mono ?_
          rintro en wx ⟨rfl, rfl⟩
          go_wp2_with (fail)
          go_round
          case rel => exact ⟨k + 1, by omega, by go_num⟩
          case measure => simp [intOf]; omega
        · rw [b1] at HJ1
          rw [b2] at HJ2
          obtain ⟨bd, rfl, hbd, hcell2⟩ := hdc hm
          clear b1 b2 hdc
          go_wp2_with (fail)
          refine HJ1.out.mono ?_
          rintro en wx ⟨rfl, rfl⟩
          go_wp2_with (fail)
          refine HJ2.out.mono ?_
          rintro en wx ⟨rfl, rfl⟩
          go_wp2_with (fail)
          refine HJ1.out.mono ?_
          rintro en wx ⟨rfl, rfl⟩
          go_wp2_with (fail)
          refine HJ2.out.mono ?_
          rintro en wx ⟨rfl, rfl⟩
          go_wp2_with (fail)
          refine HJ1.out.mono ?_
          rintro en wx ⟨rfl, rfl⟩
          go_wp2_with (fail)
          go_round
          case rel => exact ⟨k + 1, by omega, by go_num⟩
          case measure => simp [intOf]; omega
        · rw [b1] at HJ1
          rw [b2] at HJ2
          obtain ⟨bd, rfl, hbd, hcell2⟩ := hdc hm
          clear b1 b2 hdc
          go_wp2_with (fail)
          refine HJ1.out.mono ?_
          rintro en wx ⟨rfl, rfl⟩
          go_wp2_with (fail)
          refine HJ2.out.mono ?_
          rintro en wx ⟨rfl, rfl⟩
          go_wp2_with (fail)
          refine HJ1.out.mono ?_
          rintro en wx ⟨rfl, rfl⟩
          go_wp2_with (fail)
          go_round
          case rel => exact ⟨k + 1, by omega, by go_num⟩
          case measure => simp [intOf]; omega
        · rw [b1] at HJ1
          rw [b2] at HJ2
          obtain ⟨bd, rfl, hbd, hcell2⟩ := hdc hm
          clear b1 b2 hdc
          go_wp2_with (fail)
          refine HJ1.out.mono ?_
          rintro en wx ⟨rfl, rfl⟩
          go_wp2_with (fail)
          refine HJ2.out.mono ?_
          rintro en wx ⟨rfl, rfl⟩
          go_wp2_with (fail)
          refine HJ1.out.mono ?_
          rintro en wx ⟨rfl, rfl⟩
          go_wp2_with (fail)
          go_round
          case rel => exact ⟨k + 1, by omega, by go_num⟩
          case measure => simp [intOf]; omega
        · rw [b1] at HJ1
          rw [b2] at HJ2
          clear b1 b2 hdc
          go_wp2_with (fail)
          refine HJ1.out.mono ?_
          rintro en wx ⟨rfl, rfl⟩
          go_wp2_with (fail)
          refine HJ2.out.mono ?_
          rintro en wx ⟨rfl, rfl⟩
          go_wp2_with (fail)
          refine HJ1.out.mono ?_
          rintro en wx ⟨rfl, rfl⟩
          go_wp2_with (fail)
          go_round
          case rel => exact ⟨k + 1, by omega, by go_num⟩
          case measure => simp [intOf]; omega
        · rw [b1] at HJ1
          rw [b2] at HJ2
          obtain ⟨bd, rfl, hbd, hcell2⟩ := hdc hm
          clear b1 b2 hdc
          go_wp2_with (fail)
          refine HJ1.out.mono ?_
          rintro en wx ⟨rfl, rfl⟩
          go_wp2_with (fail)
          refine HJ2.out.mono ?_
          rintro en wx ⟨rfl, rfl⟩
          go_wp2_with (fail)
          refine HJ1.out.mono ?_
          rintro en wx ⟨rfl, rfl⟩
          go_wp2_with (fail)
          go_round
          case rel => exact ⟨k + 1, by omega, by go_num⟩
          case measure => simp [intOf]; omega
        · rw [b1] at HJ1
          rw [b2] at HJ2
          obtain ⟨bd, rfl, hbd, hcell2⟩ := hdc hm
          clear b1 b2 hdc
          go_wp2_with (fail)
          refine HJ1.out.mono ?_
          rintro en wx ⟨rfl, rfl⟩
          go_wp2_with (fail)
          refine HJ2.out.mono ?_
          rintro en wx ⟨rfl, rfl⟩
          go_wp2_with (fail)
          refine HJ1.out.mono ?_
          rintro en wx ⟨rfl, rfl⟩
          go_wp2_with (fail)
          refine HJ2.out.mono ?_
          rintro en wx ⟨rfl, rfl⟩
          go_wp2_with (fail)
          refine HJ1.out.mono ?_
          rintro en wx ⟨rfl, rfl⟩
          go_wp2_with (fail)
          go_round
          case rel => exact ⟨k + 1, by omega, by go_num⟩
          case measure => simp [intOf]; omega
        · rw [b1] at HJ1
          rw [b2] at HJ2
          obtain ⟨bd, rfl, hbd, hcell2⟩ := hdc hm
          clear b1 b2 hdc
          go_wp2_with (fail)
          refine HJ1.out.mono ?_
          rintro en wx ⟨rfl, rfl⟩
          go_wp2_with (fail)
          refine HJ2.out.mono ?_
          rintro en wx ⟨rfl, rfl⟩
          go_wp2_with (fail)
          refine HJ1.out.mono ?_
          rintro en wx ⟨rfl, rfl⟩
          go_wp2_with (fail)
          go_round
          case rel => exact ⟨k + 1, by omega, by go_num⟩
          case measure => simp [intOf]; omega
        · rw [b1] at HJ1
          rw [b2] at HJ2
          obtain ⟨bd, rfl, hbd, hcell2⟩ := hdc hm
          clear b1 b2 hdc
          go_wp2_with (fail)
          refine HJ1.out.mono ?_
          rintro en wx ⟨rfl, rfl⟩
          go_wp2_with (fail)
          refine HJ2.out.mono ?_
          rintro en wx ⟨rfl, rfl⟩
          go_wp2_with (fail)
          refine HJ1.out.mono ?_
          rintro en wx ⟨rfl, rfl⟩
          go_wp2_with (fail)
          go_round
          case rel => exact ⟨k + 1, by omega, by go_num⟩
          case measure => simp [intOf]; omega
      · obtain rfl : k = n := by omega
        go_wp2_with (go_at_call 16; refine HLn.out.mono ?_; rintro en wx ⟨rfl, rfl⟩)
        go_ret
        exact ⟨rfl, F3.out⟩
theorem liveOn_any (A1 A2 : Option Addr) (n c1 m c2 : Nat) (seqs dead : List Int) (s r : Int) (w : World) (hT : Tab w) (h1 : seqs.length = n) (h2 : dead.length = m) (q1 : n ≤ c1) (q2 : c1 ≤ maxLen) (q3 : m ≤ c2) (q4 : c2 ≤ maxLen) (hr1 : Rd w w.heap.size A1 (iz .u64 seqs)) (hr2 : Rd w w.heap.size A2 (iz .u64 dead)) :
    Calls Tryd.prog 4 #[.slice A1 n c1, .slice A2 m c2, .int .u64 s, .int .u64 r] w (RetB true w) := by
  by_cases h : s < r
  · exact liveOn_swap A1 A2 n c1 m c2 seqs dead r s w hT h1 h2 q1 q2 q3 q4 hr1 hr2 (by omega) (decide_eq_true h)
  · exact liveOn_keep A1 A2 n c1 m c2 seqs dead s r w hT h1 h2 q1 q2 q3 q4 hr1 hr2 (by omega) (decide_eq_false h)
end Go.Proofs.YtapfbjaopbcgjaaDoor
