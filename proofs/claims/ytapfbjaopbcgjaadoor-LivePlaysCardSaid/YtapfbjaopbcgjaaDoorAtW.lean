/- Which documents live at a number: At, by the program and by the document. -/
import Derived.Test.YtapfbjaopbcgjaaDoorBitsS
import Derived.Test.YtapfbjaopbcgjaaDoorRef14
namespace Go.Proofs.YtapfbjaopbcgjaaDoor
set_option linter.unusedVariables false
set_option linter.unusedSimpArgs false
open Go.RowKit

def atOne (seqs dead : List Int) (s : Int) (j : Nat) : Bool := decide (seqs.getD j 0 < s) && (decide (dead.length ≤ j) || decide (dead.getD j 0 = 0) || decide (s ≤ dead.getD j 0))
def atB (seqs dead : List Int) (s : Int) : List Bool := (List.range seqs.length).map (atOne seqs dead s)
/-- the first k. -/
def atK (f : Nat → Bool) (n k : Nat) : List Bool := (List.range n).map fun j => decide (j < k) && f j
theorem atK_len (f : Nat → Bool) (n k : Nat) : (atK f n k).length = n := by simp [atK]
theorem atK_has (f : Nat → Bool) {n k j : Nat} (h : j < n) : hasN (atK f n k) j = (decide (j < k) && f j) := by
  unfold hasN atK
  simp [h]
theorem atK_zero (f : Nat → Bool) (n : Nat) : atK f n 0 = List.replicate n false := by
  apply List.ext_getElem
  · simp [atK]
  · intro i h1 h2
    simp [atK]
theorem atK_all (f : Nat → Bool) (n : Nat) : atK f n n = (List.range n).map f := by
  unfold atK
  apply List.map_congr_left
  intro j hj
  rw [List.mem_range] at hj
  simp [hj]
theorem atK_set (f : Nat → Bool) {n k : Nat} (h : k < n) : (atK f n k).set k (f k) = atK f n (k + 1) := by
  apply List.ext_getElem
  · simp [atK]
  · intro i h1 h2
    by_cases e : k = i
    · subst e
      simp [atK]
    · rw [List.getElem_set_ne e]
      simp only [atK, List.getElem_map, List.getElem_range]
      have : (i < k + 1) = (i < k) := by
        apply propext
        omega
      simp [this]
theorem atK_skip (f : Nat → Bool) {n k : Nat} (h : k < n) (hf : f k = false) : atK f n (k + 1) = atK f n k := by
  rw [← atK_set f h, hf]
  apply List.ext_getElem
  · simp
  · intro i h1 h2
    by_cases e : k = i
    · subst e
      simp [atK]
    · rw [List.getElem_set_ne e]
theorem setI_nat (l : List Bool) {k : Nat} (h : k < l.length) (b : Bool) : setI l (k : Nat) b = l.set k b := by
  unfold setI
  rw [if_pos (by omega), Int.toNat_natCast]

set_option maxRecDepth 100000 in
set_option maxHeartbeats 4000000 in
theorem at_any (A1 A2 : Option Addr) (n c1 m c2 b1 b2 : Nat) (seqs dead : List Int) (s : Int) (w : World) (h1 : seqs.length = n) (h2 : dead.length = m) (q1 : n ≤ c1) (q2 : c1 ≤ maxLen) (q3 : m ≤ c2) (q4 : c2 ≤ maxLen) (hn : n ≤ 16384) (hb1 : b1 ≤ w.heap.size) (hb2 : b2 ≤ w.heap.size) (hr1 : Rd w b1 A1 (iz .u64 seqs)) (hr2 : Rd w b2 A2 (iz .u64 dead)) :
    Calls Tryd.prog 11 #[.slice A1 n c1, .slice A2 m c2, .int .u64 s] w (GivesBT w (atB seqs dead s)) := by
  have HN := hide (new_any (n : Nat) w (by omega) (by omega))
  have hk : clampN (n : Nat) = n := by unfold clampN; rw [if_neg (by omega), if_neg (by omega), Int.toNat_natCast]
  rw [hk] at HN
  have HL := hide h1
  have HM := hide h2
  have R1 := hide hr1
  have R2 := hide hr2
  unfold maxLen at q2 q4
  clear h1 h2 hr1 hr2 hk
  go_enter Tryd.func11, Tryd.ntmps11
  go_wp2_with (go_at_call 17; refine HN.out.mono ?_; rintro en w1 ⟨g, gw, rfl, hbt, hfr⟩; have B1 := hide hbt; have F1 := hide hfr; have c1' := hbt.cell1; rw [List.length_replicate] at c1'; clear hbt hfr)
  clear c1'
  go_loopw [8, 16] (fun u i wr => ∃ k : Nat, k ≤ n ∧ i = .int .i64 k ∧ Hid (BT wr w.heap.size g gw (atK (atOne seqs dead s) n k)) ∧ Hid (Fr No w wr)) (fun _ i _ => n - (intOf i).toNat)
  case atStart => exact ⟨0, by omega, rfl, hide (by rw [atK_zero]; exact B1.out), F1⟩
  case round =>
    clear B1 F1
    obtain ⟨k, hk, rfl, BW, FW⟩ := hrel
    by_cases hlt : k < n
    · have HRS := hide (R1.out.fr0 FW.out)
      have HRD : k < m → ∃ bd, A2 = some bd ∧ bd.block < b2 ∧ wr.cell? (bd.add k) = some (.int .u64 (dead.getD k 0)) := fun h => (R2.out.fr0 FW.out).intAt (by rw [HM.out]; exact h)
      obtain ⟨ad, rfl, had, hcell⟩ := HRS.out.intAt (j := k) (by rw [HL.out]; exact hlt)
      by_cases hx : seqs.getD k 0 < s
      · have hd : decide (seqs.getD k 0 < s) = true := decide_eq_true hx
        by_cases hm : m ≤ k
        · have HF : Hid (atOne seqs dead s k = true) := hide (by unfold atOne; rw [hd, HM.out, decide_eq_true hm]; rfl)
          clear HRS HRD
          generalize seqs.getD k 0 = x at hcell hx hd
          clear hx
          go_wp2_with (go_at_call 20; refine (set_any w.heap.size g gw (atK (atOne seqs dead s) n k) (k : Nat) wr BW.out).mono ?_; rintro en w' ⟨⟨v', rfl⟩, hbt, hfr⟩; have B2 := hide hbt; have F2 : Hid (Fr No w w') := hide (FW.out.own1 hfr BW.out.lt.2.2.1); rw [setI_nat _ (by rw [atK_len]; exact hlt)] at B2; clear hbt hfr)
          go_roundw
          case rel => exact ⟨k + 1, by omega, by go_num, hide (by have h := B2.out; rw [← HF.out, atK_set _ hlt] at h; exact h), F2⟩
          case measure => simp [intOf]; omega
        · obtain ⟨bd, rfl, hbd, hcell2⟩ := HRD (by omega)
          by_cases hy : dead.getD k 0 = 0
          · have hd2 : (dead.getD k 0 == 0) = true := by simpa using hy
            have HF : Hid (atOne seqs dead s k = true) := hide (by unfold atOne; rw [hd, decide_eq_true hy]; simp)
            clear HRS HRD
            generalize seqs.getD k 0 = x at hcell hx hd
            generalize dead.getD k 0 = y at hcell2 hy hd2
            clear hx
            clear hy
            go_wp2_with (go_at_call 20; refine (set_any w.heap.size g gw (atK (atOne seqs dead s) n k) (k : Nat) wr BW.out).mono ?_; rintro en w' ⟨⟨v', rfl⟩, hbt, hfr⟩; have B2 := hide hbt; have F2 : Hid (Fr No w w') := hide (FW.out.own1 hfr BW.out.lt.2.2.1); rw [setI_nat _ (by rw [atK_len]; exact hlt)] at B2; clear hbt hfr)
            go_roundw
            case rel => exact ⟨k + 1, by omega, by go_num, hide (by have h := B2.out; rw [← HF.out, atK_set _ hlt] at h; exact h), F2⟩
            case measure => simp [intOf]; omega
          · have hd2 : (dead.getD k 0 == 0) = false := by simpa using hy
            by_cases hz : s ≤ dead.getD k 0
            · have hd3 : decide (s ≤ dead.getD k 0) = true := decide_eq_true hz
              have HF : Hid (atOne seqs dead s k = true) := hide (by unfold atOne; rw [hd, hd3]; simp)
              clear HRS HRD
              generalize seqs.getD k 0 = x at hcell hx hd
              generalize dead.getD k 0 = y at hcell2 hy hd2 hz hd3
              clear hx
              clear hy
              go_wp2_with (go_at_call 20; refine (set_any w.heap.size g gw (atK (atOne seqs dead s) n k) (k : Nat) wr BW.out).mono ?_; rintro en w' ⟨⟨v', rfl⟩, hbt, hfr⟩; have B2 := hide hbt; have F2 : Hid (Fr No w w') := hide (FW.out.own1 hfr BW.out.lt.2.2.1); rw [setI_nat _ (by rw [atK_len]; exact hlt)] at B2; clear hbt hfr)
              go_roundw
              case rel => exact ⟨k + 1, by omega, by go_num, hide (by have h := B2.out; rw [← HF.out, atK_set _ hlt] at h; exact h), F2⟩
              case measure => simp [intOf]; omega
            · have hd3 : decide (s ≤ dead.getD k 0) = false := decide_eq_false hz
              have HF : Hid (atOne seqs dead s k = false) := hide (by unfold atOne; rw [hd3, decide_eq_false hy, HM.out, decide_eq_false hm]; simp)
              clear HRS HRD
              generalize seqs.getD k 0 = x at hcell hx hd
              generalize dead.getD k 0 = y at hcell2 hy hd2 hz hd3
              clear hx
              clear hy
              go_wp2
              go_roundw
              case rel => exact ⟨k + 1, by omega, by go_num, hide (by rw [atK_skip _ hlt HF.out]; exact BW.out), FW⟩
              case measure => simp [intOf]; omega
      · have hd : decide (seqs.getD k 0 < s) = false := decide_eq_false hx
        have HF : Hid (atOne seqs dead s k = false) := hide (by unfold atOne; rw [hd]; rfl)
        clear HRS HRD
        generalize seqs.getD k 0 = x at hcell hx hd
        clear hx
        go_wp2
        go_roundw
        case rel => exact ⟨k + 1, by omega, by go_num, hide (by rw [atK_skip _ hlt HF.out]; exact BW.out), FW⟩
        case measure => simp [intOf]; omega
    · obtain rfl : k = n := by omega
      go_wp2
      go_ret
      refine ⟨g, gw, rfl, ?_, FW.out⟩
      have h := BW.out
      rw [atK_all, ← HL.out] at h
      exact h
end Go.Proofs.YtapfbjaopbcgjaaDoor
