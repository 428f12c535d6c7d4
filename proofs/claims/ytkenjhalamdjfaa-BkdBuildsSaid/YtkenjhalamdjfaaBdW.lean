/- BkdBuilds, walked. -/
import Derived.Test.YtkenjhalamdjfaaBkX
import Derived.Test.YtkenjhalamdjfaaBkKe
import Derived.Test.YtkenjhalamdjfaaKit8
namespace Go.Proofs.Ytkenjhalamdjfaa
set_option linter.unusedVariables false
set_option linter.unusedSimpArgs false
open Go.RowKit

set_option maxRecDepth 100000 in
set_option maxHeartbeats 2000000 in
theorem bkdbuilds_any (A : Option Addr) (n c B : Nat) (dims : Int) (l : List Po) (w : World) (hl : l.length = n) (hn : n ≤ c) (hc : c ≤ maxLen) (hc2 : n * 32 ≤ 140737488355328) (hns : ∀ e ∈ l, (e.2.length + 1) * 8 ≤ 140737488355328) (hB : B ≤ w.heap.size) (hi : InI2 l) (hr : RdPo w B A l) :
    Calls Try.prog 3 #[.int .i64 dims, .slice A n c] w (RetB true w) := by
  have HLe := hide (lentPo_any A n c B l w hl hn hc hc2 hns hB hr)
  have HL := hide hl
  have HR := hide hr
  have HI := hide hi
  have HC := hide (And.intro hn hc)
  have HBw := hide hB
  have HC2 := hide hc2
  unfold maxLen at hc
  clear hl hr hns hi hB
  go_enter Try.func3, Try.ntmps3
  go_wp2_with (fail)
  refine HLe.out.mono ?_
  rintro en w1 ⟨A1, c1, A2, c2, rfl, hle, hre, hf⟩
  obtain ⟨r1, r2, r3⟩ := hle.rd
  obtain ⟨s1, s2, s3⟩ := hre.rd (Nat.le_trans HBw.out hf.size)
  have HBb := hide (bbuild_any A1 n c1 w1.heap.size dims l w1 HL.out r2 r3 HC2.out (Nat.le_refl _) HI.out r1)
  have HRb := hide (fun W (f : Fr No w1 W) => rbuild_any A2 n c2 w1.heap.size dims l W HL.out s2 s3 f.size HI.out (s1.fr0 f))
  have HF1 := hide hf
  have HLen := hide hle
  unfold maxLen at r3 s3
  clear hle hre hf r1 s1 HLe
  obtain ⟨K, hK⟩ : ∃ K, K = keptP dims l := ⟨_, rfl⟩
  rw [← hK] at HBb HRb
  obtain ⟨m, hm⟩ : ∃ m, m = K.length := ⟨_, rfl⟩
  have HM := hide hm
  clear hK hm
  go_wp2_with (fail)
  refine HBb.out.mono ?_
  rintro en w2 ⟨v2, rfl, hown, hfr⟩
  rw [← HM.out] at hown
  obtain ⟨A3, c3, rfl, p1, p2, _, p3, _⟩ := hown.form
  have HF2 := hide hfr
  have HR3 := hide p3
  have HRw := hide (HRb.out w2 hfr)
  have HP := hide (And.intro p1 p2)
  unfold maxLen at p2
  clear hown hfr p3 HBb HRb
  go_wp2_with (fail)
  refine HRw.out.mono ?_
  rintro en w3 ⟨v3, rfl, hown, hfr⟩
  rw [← HM.out] at hown
  obtain ⟨A4, c4, rfl, q1, q2, _, q3, _⟩ := hown.form
  have HKb := hide (kbytes_any A3 A4 m c3 m c4 _ _ K K w3 HM.out.symm HM.out.symm HP.out.1 HP.out.2 q1 q2 (HR3.out.fr0 hfr) q3)
  rw [decide_eq_true rfl] at HKb
  have HF3 := hide (HF2.out.tr hfr)
  unfold maxLen at q2
  clear hown hfr q3 HRw HF2 HR3
  go_wp2_with (fail)
  refine HKb.out.mono ?_
  rintro en w4 ⟨rfl, nq1, rfl⟩
  have HF4 : Hid (Fr No w1 (w3.drewN nq1)) := hide (HF3.out.drewN nq1)
  generalize w3.drewN nq1 = w4 at HF4 ⊢
  have HKe := hide (keptPo_any A1 A n c1 n c w.heap.size B l w4 HL.out HL.out HC.out.1 HC.out.2 (HLen.out.fr0 HF4.out) (HR.out.fr0 (HF1.out.tr HF4.out)))
  clear HKb HF3
  go_wp2_with (fail)
  refine HKe.out.mono ?_
  rintro en w5 ⟨rfl, nq2, rfl⟩
  go_wp2_with (fail)
  go_ret
  exact ⟨rfl, (HF1.out.tr HF4.out).drewN _⟩
end Go.Proofs.Ytkenjhalamdjfaa
