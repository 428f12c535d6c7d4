/- Which documents live at a number, by the document: At. -/
import Derived.Test.YtapfbjaopbcgjaaDoorAtW
namespace Go.Proofs.YtapfbjaopbcgjaaDoor
set_option linter.unusedVariables false
set_option linter.unusedSimpArgs false
open Go.RowKit

set_option maxRecDepth 100000 in
set_option maxHeartbeats 4000000 in
theorem refAt_any (A1 A2 : Option Addr) (n c1 m c2 b1 b2 : Nat) (seqs dead : List Int) (s : Int) (w : World) (h1 : seqs.length = n) (h2 : dead.length = m) (q1 : n ≤ c1) (q2 : c1 ≤ maxLen) (q3 : m ≤ c2) (q4 : c2 ≤ maxLen) (hn : n ≤ 16384) (hb1 : b1 ≤ w.heap.size) (hb2 : b2 ≤ w.heap.size) (hr1 : Rd w b1 A1 (iz .u64 seqs)) (hr2 : Rd w b2 A2 (iz .u64 dead)) :
    Calls Tryd.prog 13 #[.slice A1 n c1, .slice A2 m c2, .int .u64 s] w (GivesBz w (atB seqs dead s)) := by
  have HN := hide (refNew_mid n false w hn)
  have HL := hide h1
  have HM := hide h2
  have R1 := hide hr1
  have R2 := hide hr2
  unfold maxLen at q2 q4
  clear h1 h2 hr1 hr2
  go_enter Tryd.func13, Tryd.ntmps13
  go_wp2_with (go_at_call 19; refine HN.out.mono ?_; rintro en w1 ⟨v, rfl, hown, hfr⟩; rw [List.length_replicate] at hown; have B1 := hide hown; have F1 := hide hfr; clear hown hfr; obtain ⟨A0, c0, rfl, p1, p2, _⟩ := B1.out.form; unfold maxLen at p2)
  go_loopw [8, 9] (fun i d wr => ∃ k : Nat, k ≤ n ∧ i = .int .i64 k ∧ Hid (Own wr w.heap.size 4 1 (.slice A0 n c0) n (bz (atK (atOne seqs dead s) n k))) ∧ Hid (Fr No w wr)) (fun i _ _ => n - (intOf i).toNat)
  case atStart => exact ⟨0, by omega, rfl, hide (by rw [atK_zero]; exact B1.out), F1⟩
  case round =>
    clear B1 F1
    obtain ⟨k, hk, rfl, OW, FW⟩ := hrel
    by_cases hlt : k < n
    · have HRD : k < m → ∃ bd, A2 = some bd ∧ bd.block < b2 ∧ wr.cell? (bd.add k) = some (.int .u64 (dead.getD k 0)) := fun h => (R2.out.fr0 FW.out).intAt (by rw [HM.out]; exact h)
      obtain ⟨ad, rfl, had, hcell⟩ := (R1.out.fr0 FW.out).intAt (j := k) (by rw [HL.out]; exact hlt)
      obtain ⟨g', rfl, hg1, _, hcell3, hfz, hst⟩ := OW.out.store hlt
      rw [bz_at _ (by rw [atK_len]; exact hlt)] at hcell3
      have HSt := hide hst
      clear hst
      generalize hasN (atK (atOne seqs dead s) n k) k = old at hcell3
      by_cases hx : seqs.getD k 0 < s
      · have hd : decide (seqs.getD k 0 < s) = true := decide_eq_true hx
        by_cases hm : m ≤ k
        · have HF : Hid (atOne seqs dead s k = true) := hide (by unfold atOne; rw [hd, HM.out, decide_eq_true hm]; rfl)
          clear HRD
          generalize seqs.getD k 0 = x at hcell hx hd
          clear hx
          go_wp2
          go_roundw
          case rel => exact ⟨k + 1, by omega, by go_num, hide (by have h := HSt.out (.bool true); rw [show (bz (atK (atOne seqs dead s) n k)).set k (.bool true) = bz (atK (atOne seqs dead s) n (k + 1)) by rw [← atK_set _ hlt, HF.out]; unfold bz; rw [List.map_set]] at h; exact h), hide (FW.out.own1 ((Fr.refl (Is g') wr).setCell (p := ⟨g', k, none⟩) (fun _ => rfl) _) hg1)⟩
          case measure => simp [intOf]; omega
        · obtain ⟨bd, rfl, hbd, hcell2⟩ := HRD (by omega)
          clear HRD
          by_cases hy : dead.getD k 0 = 0
          · have hd2 : (dead.getD k 0 == 0) = true := by simpa using hy
            have HF : Hid (atOne seqs dead s k = true) := hide (by unfold atOne; rw [hd, decide_eq_true hy]; simp)
            clear hy
            generalize seqs.getD k 0 = x at hcell hx hd
            generalize dead.getD k 0 = y at hcell2 hd2
            clear hx
            go_wp2
            go_roundw
            case rel => exact ⟨k + 1, by omega, by go_num, hide (by have h := HSt.out (.bool true); rw [show (bz (atK (atOne seqs dead s) n k)).set k (.bool true) = bz (atK (atOne seqs dead s) n (k + 1)) by rw [← atK_set _ hlt, HF.out]; unfold bz; rw [List.map_set]] at h; exact h), hide (FW.out.own1 ((Fr.refl (Is g') wr).setCell (p := ⟨g', k, none⟩) (fun _ => rfl) _) hg1)⟩
            case measure => simp [intOf]; omega
          · have hd2 : (dead.getD k 0 == 0) = false := by simpa using hy
            by_cases hz : s ≤ dead.getD k 0
            · have hd3 : decide (s ≤ dead.getD k 0) = true := decide_eq_true hz
              have HF : Hid (atOne seqs dead s k = true) := hide (by unfold atOne; rw [hd, hd3]; simp)
              clear hy
              generalize seqs.getD k 0 = x at hcell hx hd
              generalize dead.getD k 0 = y at hcell2 hd2 hz hd3
              clear hx
              go_wp2
              go_roundw
              case rel => exact ⟨k + 1, by omega, by go_num, hide (by have h := HSt.out (.bool true); rw [show (bz (atK (atOne seqs dead s) n k)).set k (.bool true) = bz (atK (atOne seqs dead s) n (k + 1)) by rw [← atK_set _ hlt, HF.out]; unfold bz; rw [List.map_set]] at h; exact h), hide (FW.out.own1 ((Fr.refl (Is g') wr).setCell (p := ⟨g', k, none⟩) (fun _ => rfl) _) hg1)⟩
              case measure => simp [intOf]; omega
            · have hd3 : decide (s ≤ dead.getD k 0) = false := decide_eq_false hz
              have HF : Hid (atOne seqs dead s k = false) := hide (by unfold atOne; rw [hd3, decide_eq_false hy, HM.out, decide_eq_false hm]; simp)
              clear hy
              generalize seqs.getD k 0 = x at hcell hx hd
              generalize dead.getD k 0 = y at hcell2 hd2 hz hd3
              clear hx
              go_wp2
              go_roundw
              case rel => exact ⟨k + 1, by omega, by go_num, hide (by have h := HSt.out (.bool false); rw [show (bz (atK (atOne seqs dead s) n k)).set k (.bool false) = bz (atK (atOne seqs dead s) n (k + 1)) by rw [← atK_set _ hlt, HF.out]; unfold bz; rw [List.map_set]] at h; exact h), hide (FW.out.own1 ((Fr.refl (Is g') wr).setCell (p := ⟨g', k, none⟩) (fun _ => rfl) _) hg1)⟩
              case measure => simp [intOf]; omega
      · have hd : decide (seqs.getD k 0 < s) = false := decide_eq_false hx
        have HF : Hid (atOne seqs dead s k = false) := hide (by unfold atOne; rw [hd]; rfl)
        by_cases hm : m ≤ k
        · clear HRD
          generalize seqs.getD k 0 = x at hcell hx hd
          clear hx
          go_wp2
          go_roundw
          case rel => exact ⟨k + 1, by omega, by go_num, hide (by have h := HSt.out (.bool false); rw [show (bz (atK (atOne seqs dead s) n k)).set k (.bool false) = bz (atK (atOne seqs dead s) n (k + 1)) by rw [← atK_set _ hlt, HF.out]; unfold bz; rw [List.map_set]] at h; exact h), hide (FW.out.own1 ((Fr.refl (Is g') wr).setCell (p := ⟨g', k, none⟩) (fun _ => rfl) _) hg1)⟩
          case measure => simp [intOf]; omega
        · obtain ⟨bd, rfl, hbd, hcell2⟩ := HRD (by omega)
          clear HRD
          generalize seqs.getD k 0 = x at hcell hx hd
          generalize dead.getD k 0 = y at hcell2 
          clear hx
          go_wp2
          go_roundw
          case rel => exact ⟨k + 1, by omega, by go_num, hide (by have h := HSt.out (.bool false); rw [show (bz (atK (atOne seqs dead s) n k)).set k (.bool false) = bz (atK (atOne seqs dead s) n (k + 1)) by rw [← atK_set _ hlt, HF.out]; unfold bz; rw [List.map_set]] at h; exact h), hide (FW.out.own1 ((Fr.refl (Is g') wr).setCell (p := ⟨g', k, none⟩) (fun _ => rfl) _) hg1)⟩
          case measure => simp [intOf]; omega
    · obtain rfl : k = n := by omega
      go_wp2
      go_ret
      refine ⟨_, rfl, ?_, FW.out⟩
      have h := OW.out
      rw [atK_all, ← HL.out] at h
      have e : (atB seqs dead s).length = k := by simp [atB, HL.out]
      rw [e]
      rw [← HL.out]
      exact h
end Go.Proofs.YtapfbjaopbcgjaaDoor
