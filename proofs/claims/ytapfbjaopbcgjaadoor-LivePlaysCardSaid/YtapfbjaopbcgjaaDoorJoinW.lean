/- The document's Has and Join of rows; New of whatever size. -/
import Derived.Test.YtapfbjaopbcgjaaDoorRef14
import Derived.Test.YtapfbjaopbcgjaaDoorAlgP
namespace Go.Proofs.YtapfbjaopbcgjaaDoor
set_option linter.unusedVariables false
set_option linter.unusedSimpArgs false
open Go.RowKit

set_option maxRecDepth 100000 in
set_option maxHeartbeats 800000 in
theorem refHas_any (A : Option Addr) (n c B k : Nat) (l : List Bool) (w : World) (hl : l.length = n) (hn : n ≤ c) (hc : c ≤ maxLen) (hB : B ≤ w.heap.size) (hr : Rd w B A (bz l)) :
    Calls Tryd.prog 47 #[.slice A n c, .int .i64 (k : Nat)] w (Ret (.bool (hasN l k)) w) := by
  unfold maxLen at hc
  have hk0 : decide ((0 : Int) ≤ (k : Int)) = true := decide_eq_true (by omega)
  by_cases h : k < n
  · obtain ⟨ad, rfl, had, hcell⟩ := hr.boolAt (j := k) (by rw [hl]; exact h)
    generalize hasN l k = v at hcell
    clear hr hl hB
    go_enter Tryd.func47, Tryd.ntmps47
    go_wp2
    go_ret
    exact ⟨rfl, rfl⟩
  · have hd : decide ((k : Int) < (n : Int)) = false := decide_eq_false (by omega)
    rw [hasN_big (by omega)]
    clear hr hl hB
    go_enter Tryd.func47, Tryd.ntmps47
    go_wp2
    go_ret
    exact ⟨rfl, rfl⟩

set_option maxRecDepth 100000 in
set_option maxHeartbeats 1000000 in
theorem joinAnd_any (A1 A2 : Option Addr) (n c1 m c2 B1 B2 : Nat) (a b : List Bool) (w : World) (h1 : a.length = n) (h2 : b.length = m) (q1 : n ≤ c1) (q2 : c1 ≤ maxLen) (q3 : m ≤ c2) (q4 : c2 ≤ maxLen) (hn : n ≤ 16384) (hB1 : B1 ≤ w.heap.size) (hB2 : B2 ≤ w.heap.size) (hr1 : Rd w B1 A1 (bz a)) (hr2 : Rd w B2 A2 (bz b)) :
    Calls Tryd.prog 23 #[.slice A1 n c1, .slice A2 m c2, .int .i64 0] w (GivesBz w (joinL (fun p q => p && q) a b)) := by
  have hm := make_bools n (by omega) w
  have HO : Hid (Own (w.alloc (.cells (madeCells #[.bool false] n) 4)) w.heap.size 4 1 (.slice (some ⟨w.heap.size, 0, none⟩) n n) n (bz (atK (fun j => (fun p q => p && q) (hasN a j) (hasN b j)) n 0))) := hide (by
    have h := made_own w n 4 (.bool false) _ rfl (by unfold maxLen; omega)
    rw [atK_zero, bz, List.map_replicate]
    exact h)
  generalize madeCells #[.bool false] n = z at hm HO
  have HH := hide (fun W (f : Fr No w W) k => refHas_any A2 m c2 B2 k b W h2 q3 q4 (Nat.le_trans hB2 f.size) (hr2.fr0 f))
  have HR1 := hide hr1
  have HL1 := hide h1
  unfold maxLen at q2 q4
  clear hr1 hr2 h1 h2 hB1 hB2
  go_enter Tryd.func23, Tryd.ntmps23
  go_wp2_with (fail)
  go_loopw [8, 9, 34, 46] (fun i u9 u34 u46 wr => ∃ k : Nat, k ≤ n ∧ i = .int .i64 k ∧ Hid (Own wr w.heap.size 4 1 (.slice (some ⟨w.heap.size, 0, none⟩) n n) n (bz (atK (fun j => (fun p q => p && q) (hasN a j) (hasN b j)) n k))) ∧ Hid (Fr No w wr)) (fun i _ _ _ _ => n - (intOf i).toNat)
  case atStart => exact ⟨0, by omega, rfl, HO, hide ((Fr.refl _ _).alloc _)⟩
  case round =>
    clear HO
    obtain ⟨k, hk, rfl, OW, FW⟩ := hrel
    by_cases hlt : k < n
    · obtain ⟨g', e, _, _, hcell, hfz, hst⟩ := OW.out.store hlt
      have e1 : w.heap.size = g' := by injection e with e; injection e
      subst e1
      rw [bz_at _ (by rw [atK_len]; exact hlt)] at hcell
      obtain ⟨ad, rfl, had, hcell2⟩ := (HR1.out.fr0 FW.out).boolAt (j := k) (by rw [HL1.out]; exact hlt)
      have HHk := hide (HH.out wr FW.out k)
      have HS := hide (hst (.bool ((fun p q => p && q) (hasN a k) (hasN b k))))
      rw [show (bz (atK (fun j => (fun p q => p && q) (hasN a j) (hasN b j)) n k)).set k (.bool ((fun p q => p && q) (hasN a k) (hasN b k))) = bz (atK (fun j => (fun p q => p && q) (hasN a j) (hasN b j)) n (k + 1)) by rw [← atK_set _ hlt]; unfold bz; rw [List.map_set]] at HS
      generalize hasN (atK (fun j => (fun p q => p && q) (hasN a j) (hasN b j)) n k) k = old at hcell
      generalize hasN a k = p at hcell2 HS
      generalize hasN b k = q at HHk HS
      clear hst e HH HR1
      cases p <;> cases q
      all_goals
        go_wp2_with (fail)
        refine HHk.out.mono ?_
        rintro en wv ⟨rfl, rfl⟩
        go_wp2_with (fail)
        go_roundw
        case rel => exact ⟨k + 1, by omega, by go_num, HS, hide (FW.out.setCell (p := ⟨w.heap.size, k, none⟩) (fun h => absurd h (Nat.lt_irrefl _)) _)⟩
        case measure => simp [intOf]; omega
    · obtain rfl : k = n := by omega
      go_wp2_with (fail)
      go_ret
      refine ⟨_, rfl, ?_, FW.out⟩
      have h := OW.out
      rw [atK_all] at h
      rw [joinL_len, HL1.out]
      unfold joinL
      rw [HL1.out]
      exact h

set_option maxRecDepth 100000 in
set_option maxHeartbeats 1000000 in
theorem joinOr_any (A1 A2 : Option Addr) (n c1 m c2 B1 B2 : Nat) (a b : List Bool) (w : World) (h1 : a.length = n) (h2 : b.length = m) (q1 : n ≤ c1) (q2 : c1 ≤ maxLen) (q3 : m ≤ c2) (q4 : c2 ≤ maxLen) (hn : n ≤ 16384) (hB1 : B1 ≤ w.heap.size) (hB2 : B2 ≤ w.heap.size) (hr1 : Rd w B1 A1 (bz a)) (hr2 : Rd w B2 A2 (bz b)) :
    Calls Tryd.prog 23 #[.slice A1 n c1, .slice A2 m c2, .int .i64 1] w (GivesBz w (joinL (fun p q => p || q) a b)) := by
  have hm := make_bools n (by omega) w
  have HO : Hid (Own (w.alloc (.cells (madeCells #[.bool false] n) 4)) w.heap.size 4 1 (.slice (some ⟨w.heap.size, 0, none⟩) n n) n (bz (atK (fun j => (fun p q => p || q) (hasN a j) (hasN b j)) n 0))) := hide (by
    have h := made_own w n 4 (.bool false) _ rfl (by unfold maxLen; omega)
    rw [atK_zero, bz, List.map_replicate]
    exact h)
  generalize madeCells #[.bool false] n = z at hm HO
  have HH := hide (fun W (f : Fr No w W) k => refHas_any A2 m c2 B2 k b W h2 q3 q4 (Nat.le_trans hB2 f.size) (hr2.fr0 f))
  have HR1 := hide hr1
  have HL1 := hide h1
  unfold maxLen at q2 q4
  clear hr1 hr2 h1 h2 hB1 hB2
  go_enter Tryd.func23, Tryd.ntmps23
  go_wp2_with (fail)
  go_loopw [8, 9, 34, 46] (fun i u9 u34 u46 wr => ∃ k : Nat, k ≤ n ∧ i = .int .i64 k ∧ Hid (Own wr w.heap.size 4 1 (.slice (some ⟨w.heap.size, 0, none⟩) n n) n (bz (atK (fun j => (fun p q => p || q) (hasN a j) (hasN b j)) n k))) ∧ Hid (Fr No w wr)) (fun i _ _ _ _ => n - (intOf i).toNat)
  case atStart => exact ⟨0, by omega, rfl, HO, hide ((Fr.refl _ _).alloc _)⟩
  case round =>
    clear HO
    obtain ⟨k, hk, rfl, OW, FW⟩ := hrel
    by_cases hlt : k < n
    · obtain ⟨g', e, _, _, hcell, hfz, hst⟩ := OW.out.store hlt
      have e1 : w.heap.size = g' := by injection e with e; injection e
      subst e1
      rw [bz_at _ (by rw [atK_len]; exact hlt)] at hcell
      obtain ⟨ad, rfl, had, hcell2⟩ := (HR1.out.fr0 FW.out).boolAt (j := k) (by rw [HL1.out]; exact hlt)
      have HHk := hide (HH.out wr FW.out k)
      have HS := hide (hst (.bool ((fun p q => p || q) (hasN a k) (hasN b k))))
      rw [show (bz (atK (fun j => (fun p q => p || q) (hasN a j) (hasN b j)) n k)).set k (.bool ((fun p q => p || q) (hasN a k) (hasN b k))) = bz (atK (fun j => (fun p q => p || q) (hasN a j) (hasN b j)) n (k + 1)) by rw [← atK_set _ hlt]; unfold bz; rw [List.map_set]] at HS
      generalize hasN (atK (fun j => (fun p q => p || q) (hasN a j) (hasN b j)) n k) k = old at hcell
      generalize hasN a k = p at hcell2 HS
      generalize hasN b k = q at HHk HS
      clear hst e HH HR1
      cases p <;> cases q
      all_goals
        go_wp2_with (fail)
        refine HHk.out.mono ?_
        rintro en wv ⟨rfl, rfl⟩
        go_wp2_with (fail)
        go_roundw
        case rel => exact ⟨k + 1, by omega, by go_num, HS, hide (FW.out.setCell (p := ⟨w.heap.size, k, none⟩) (fun h => absurd h (Nat.lt_irrefl _)) _)⟩
        case measure => simp [intOf]; omega
    · obtain rfl : k = n := by omega
      go_wp2_with (fail)
      go_ret
      refine ⟨_, rfl, ?_, FW.out⟩
      have h := OW.out
      rw [atK_all] at h
      rw [joinL_len, HL1.out]
      unfold joinL
      rw [HL1.out]
      exact h

set_option maxRecDepth 100000 in
set_option maxHeartbeats 1000000 in
theorem joinMinus_any (A1 A2 : Option Addr) (n c1 m c2 B1 B2 : Nat) (a b : List Bool) (w : World) (h1 : a.length = n) (h2 : b.length = m) (q1 : n ≤ c1) (q2 : c1 ≤ maxLen) (q3 : m ≤ c2) (q4 : c2 ≤ maxLen) (hn : n ≤ 16384) (hB1 : B1 ≤ w.heap.size) (hB2 : B2 ≤ w.heap.size) (hr1 : Rd w B1 A1 (bz a)) (hr2 : Rd w B2 A2 (bz b)) :
    Calls Tryd.prog 23 #[.slice A1 n c1, .slice A2 m c2, .int .i64 2] w (GivesBz w (joinL (fun p q => p && !q) a b)) := by
  have hm := make_bools n (by omega) w
  have HO : Hid (Own (w.alloc (.cells (madeCells #[.bool false] n) 4)) w.heap.size 4 1 (.slice (some ⟨w.heap.size, 0, none⟩) n n) n (bz (atK (fun j => (fun p q => p && !q) (hasN a j) (hasN b j)) n 0))) := hide (by
    have h := made_own w n 4 (.bool false) _ rfl (by unfold maxLen; omega)
    rw [atK_zero, bz, List.map_replicate]
    exact h)
  generalize madeCells #[.bool false] n = z at hm HO
  have HH := hide (fun W (f : Fr No w W) k => refHas_any A2 m c2 B2 k b W h2 q3 q4 (Nat.le_trans hB2 f.size) (hr2.fr0 f))
  have HR1 := hide hr1
  have HL1 := hide h1
  unfold maxLen at q2 q4
  clear hr1 hr2 h1 h2 hB1 hB2
  go_enter Tryd.func23, Tryd.ntmps23
  go_wp2_with (fail)
  go_loopw [8, 9, 34, 46] (fun i u9 u34 u46 wr => ∃ k : Nat, k ≤ n ∧ i = .int .i64 k ∧ Hid (Own wr w.heap.size 4 1 (.slice (some ⟨w.heap.size, 0, none⟩) n n) n (bz (atK (fun j => (fun p q => p && !q) (hasN a j) (hasN b j)) n k))) ∧ Hid (Fr No w wr)) (fun i _ _ _ _ => n - (intOf i).toNat)
  case atStart => exact ⟨0, by omega, rfl, HO, hide ((Fr.refl _ _).alloc _)⟩
  case round =>
    clear HO
    obtain ⟨k, hk, rfl, OW, FW⟩ := hrel
    by_cases hlt : k < n
    · obtain ⟨g', e, _, _, hcell, hfz, hst⟩ := OW.out.store hlt
      have e1 : w.heap.size = g' := by injection e with e; injection e
      subst e1
      rw [bz_at _ (by rw [atK_len]; exact hlt)] at hcell
      obtain ⟨ad, rfl, had, hcell2⟩ := (HR1.out.fr0 FW.out).boolAt (j := k) (by rw [HL1.out]; exact hlt)
      have HHk := hide (HH.out wr FW.out k)
      have HS := hide (hst (.bool ((fun p q => p && !q) (hasN a k) (hasN b k))))
      rw [show (bz (atK (fun j => (fun p q => p && !q) (hasN a j) (hasN b j)) n k)).set k (.bool ((fun p q => p && !q) (hasN a k) (hasN b k))) = bz (atK (fun j => (fun p q => p && !q) (hasN a j) (hasN b j)) n (k + 1)) by rw [← atK_set _ hlt]; unfold bz; rw [List.map_set]] at HS
      generalize hasN (atK (fun j => (fun p q => p && !q) (hasN a j) (hasN b j)) n k) k = old at hcell
      generalize hasN a k = p at hcell2 HS
      generalize hasN b k = q at HHk HS
      clear hst e HH HR1
      cases p <;> cases q
      all_goals
        go_wp2_with (fail)
        refine HHk.out.mono ?_
        rintro en wv ⟨rfl, rfl⟩
        go_wp2_with (fail)
        go_roundw
        case rel => exact ⟨k + 1, by omega, by go_num, HS, hide (FW.out.setCell (p := ⟨w.heap.size, k, none⟩) (fun h => absurd h (Nat.lt_irrefl _)) _)⟩
        case measure => simp [intOf]; omega
    · obtain rfl : k = n := by omega
      go_wp2_with (fail)
      go_ret
      refine ⟨_, rfl, ?_, FW.out⟩
      have h := OW.out
      rw [atK_all] at h
      rw [joinL_len, HL1.out]
      unfold joinL
      rw [HL1.out]
      exact h
end Go.Proofs.YtapfbjaopbcgjaaDoor
