/- The statements' own kit at rows of texts: are they the same? -/
import Derived.Test.YthbgcmffpnmbeaaTxV
namespace Go.Proofs.Ythbgcmffpnmbeaa
set_option linter.unusedVariables false
set_option linter.unusedSimpArgs false
open Go.RowKit

theorem tbeq_dec (a b : Tx) : (a == b) = decide (a = b) := by by_cases h : a = b <;> simp [h]
set_option maxRecDepth 100000 in
set_option maxHeartbeats 800000 in
theorem sameS_any (A B : Option Addr) (n c m d b1 b2 : Nat) (xs ys : List Tx) (w : World) (hx : xs.length = n) (hy : ys.length = m) (hn : n ≤ c) (hc : c ≤ maxLen) (hm : m ≤ d) (hd : d ≤ maxLen) (hr : Rd w b1 A (svs xs)) (hs : Rd w b2 B (svs ys)) :
    Calls Try.prog 19 #[.slice A n c, .slice B m d] w (RetQ (.bool (decide (xs = ys))) w) := by
  unfold maxLen at hc hd
  have HX := hide hx
  have HY := hide hy
  have HR := hide hr
  have HS := hide hs
  clear hx hy hr hs
  by_cases hnm : n = m
  · subst hnm
    have hb : ((n : Int) != n) = false := by simp
    go_enter Try.func19, Try.ntmps19
    go_wp2
    go_loopw [5] (fun i wr => ∃ k nq : Nat, k ≤ n ∧ i = .int .i64 k ∧ wr = w.drewN nq ∧ Hid (xs.take k = ys.take k)) (fun i _ => n - (intOf i).toNat)
    case atStart => exact ⟨0, 0, by omega, rfl, rfl, hide rfl⟩
    case round =>
      obtain ⟨k, nq, hk, rfl, rfl, HT⟩ := hrel
      by_cases hlt : k < n
      · have h1 : k < xs.length := by rw [HX.out]; exact hlt
        have h2 : k < ys.length := by rw [HY.out]; exact hlt
        obtain ⟨ad, X, rfl, _, hcell, _, hX, _⟩ := cellStr HR.out h1
        obtain ⟨bd, Y, rfl, _, hcell2, _, hY, _⟩ := cellStr HS.out h2
        have HE : Hid (xs.getD k [] = ys.getD k [] → xs.take (k + 1) = ys.take (k + 1)) := hide (fun he => by rw [take_getD [] h1, take_getD [] h2, HT.out, he])
        have HN : Hid (xs.getD k [] ≠ ys.getD k [] → xs ≠ ys) := hide (fun h e => h (by rw [e]))
        have hq : (X.toList == Y.toList) = decide (xs.getD k [] = ys.getD k []) := by rw [hX, hY]; exact tbeq_dec _ _
        clear h1 h2 hX hY
        by_cases he : xs.getD k [] = ys.getD k []
        · have HE' := hide (HE.out he)
          rw [decide_eq_true he] at hq
          have hq2 : (X.toList != Y.toList) = false := by simpa [bne] using hq
          clear HE HN he
          go_wp2
          go_quiet (fail)
          go_wp2
          go_round
          case rel => exact ⟨k + 1, _, by omega, by go_num, rfl, HE'⟩
          case measure => simp [intOf]; omega
        · rw [decide_eq_false he] at hq
          have hq2 : (X.toList != Y.toList) = true := by simpa [bne] using hq
          have HF := hide (HN.out he)
          clear HN HE he
          go_wp2
          go_quiet (fail)
          go_wp2
          go_ret
          exact ⟨by rw [decide_eq_false HF.out]; rfl, _, World.drewN_drewN _ _ _⟩
      · have HF := hide (show xs = ys by
          have h := HT.out
          rwa [List.take_of_length_le (by rw [HX.out]; omega), List.take_of_length_le (by rw [HY.out]; omega)] at h)
        go_wp2
        go_ret
        exact ⟨by rw [decide_eq_true HF.out]; rfl, _, rfl⟩
  · have hb : ((n : Int) != m) = true := by simp; omega
    have HF := hide (show xs ≠ ys from fun e => hnm (by rw [← HX.out, ← HY.out, e]))
    go_enter Try.func19, Try.ntmps19
    go_wp2
    go_ret
    exact ⟨by rw [decide_eq_false HF.out]; rfl, 0, rfl⟩

end Go.Proofs.Ythbgcmffpnmbeaa
