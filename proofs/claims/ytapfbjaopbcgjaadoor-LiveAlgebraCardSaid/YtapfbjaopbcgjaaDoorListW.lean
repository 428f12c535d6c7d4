/- The walk of list: a set of a size with the numbers that there are (500 at most). -/
import Derived.Test.YtapfbjaopbcgjaaDoorAwake14
namespace Go.Proofs.YtapfbjaopbcgjaaDoor
set_option linter.unusedVariables false
set_option linter.unusedSimpArgs false
open Go.RowKit

set_option maxRecDepth 100000 in
set_option maxHeartbeats 1000000 in
theorem list_any (n : Int) (A : Option Addr) (m c B : Nat) (l : List Int) (w : World) (hn1 : -9223372036854775808 ≤ n) (hn2 : n ≤ 9223372036854775807) (hl : l.length = m) (h1 : m ≤ c) (h2 : c ≤ maxLen) (hB : B ≤ w.heap.size) (hr : Rd w B A (iz .i64 l)) :
    Calls Tryd.prog 40 #[.int .i64 n, .slice A m c] w (GivesBT w (ofL (clampN n) (l.take 500))) := by
  have HN := hide (new_any n w hn1 hn2)
  generalize clampN n = N at HN ⊢
  have HL := hide hl
  have HR := hide hr
  have HBB := hide hB
  unfold maxLen at h2
  clear hl hr hB hn1 hn2
  go_enter Tryd.func40, Tryd.ntmps40
  go_wp2_with (fail)
  refine HN.out.mono ?_
  rintro en w1 ⟨g, gw, rfl, hbt, hfr⟩
  have B1 := hide hbt
  have F1 := hide hfr
  clear hbt hfr HN
  go_wp2_with (fail)
  go_loopw [6] (fun i wr => ∃ k : Nat, k ≤ m ∧ k ≤ 500 ∧ i = .int .i64 k ∧ Hid (BT wr w.heap.size g gw (ofL N (l.take k))) ∧ Hid (Fr No w wr)) (fun i _ => m - (intOf i).toNat)
  case atStart => exact ⟨0, by omega, by omega, rfl, B1, F1⟩
  case round =>
    clear B1 F1
    obtain ⟨k, hk, hk5, rfl, BW, FW⟩ := hrel
    by_cases hlt : k < m
    · by_cases h5 : k < 500
      · obtain ⟨ad, rfl, had, hcell⟩ := (HR.out.fr0 FW.out).intAt (j := k) (by rw [HL.out]; exact hlt)
        have HT := hide (take_snoc_int (l := l) (k := k) (by rw [HL.out]; exact hlt))
        generalize l.getD k 0 = x at hcell HT
        go_wp2_with (fail)
        refine (set_any w.heap.size g gw (ofL N (l.take k)) x wr BW.out).mono ?_
        rintro en w' ⟨⟨v', rfl⟩, hbt, hfr⟩
        have B2 := hide hbt
        have F2 : Hid (Fr No w w') := hide (FW.out.own1 hfr BW.out.lt.2.2.1)
        clear hbt hfr
        go_wp2_with (fail)
        go_roundw
        case rel => exact ⟨k + 1, by omega, by omega, by go_num, hide (by rw [HT.out, ofL_snoc]; exact B2.out), F2⟩
        case measure => simp [intOf]; omega
      · obtain rfl : k = 500 := by omega
        go_wp2_with (fail)
        go_ret
        exact ⟨g, gw, rfl, BW.out, FW.out⟩
    · obtain rfl : k = m := by omega
      go_wp2_with (fail)
      go_ret
      refine ⟨g, gw, rfl, ?_, FW.out⟩
      have h := BW.out
      rw [List.take_of_length_le (Nat.le_of_eq HL.out)] at h
      rw [List.take_of_length_le (by rw [HL.out]; exact hk5)]
      exact h
theorem ofL_len (n : Nat) (l : List Int) : (ofL n l).length = n := by
  unfold ofL
  suffices h : ∀ (l : List Int) (s : List Bool), (l.foldl (fun s i => setI s i true) s).length = s.length by rw [h, List.length_replicate]
  intro l
  induction l with
  | nil => intro s; rfl
  | cons x t ih => intro s; rw [List.foldl_cons, ih, setI_len]
end Go.Proofs.YtapfbjaopbcgjaaDoor
