/- A directory's small questions. -/
import Derived.Test.YthbgcmffpnmbeaaVfD
import Derived.Test.YthbgcmffpnmbeaaWpN
namespace Go.Proofs.Ythbgcmffpnmbeaa
set_option linter.unusedVariables false
set_option linter.unusedSimpArgs false
open Go.RowKit Go.Maps

section
variable {w : World} {Z : Nat → Prop} {d N : Nat} {S : Di} {p : Ph}
set_option maxRecDepth 100000 in
set_option maxHeartbeats 400000 in
theorem off_any (h : DirP w Z d S N p) : Calls Try.prog 39 #[.pointer (some ⟨d, 0, none⟩)] w (RetQ (.bool S.off) w) := by
  have c3 : w.cell? ⟨d, 3, none⟩ = some (.int .i64 (S.calls : Nat)) := h.cell rfl
  have c4 : w.cell? ⟨d, 4, none⟩ = some (.int .i64 S.halt) := h.cell rfl
  clear h
  unfold Di.off
  by_cases h1 : 0 ≤ S.halt
  · have d1 : decide (0 ≤ S.halt) = true := decide_eq_true h1
    go_enter Try.func39, Try.ntmps39
    go_wp2
    go_quiet (fail)
    go_wp2
    go_ret
    exact ⟨by rw [d1]; simp, _, rfl⟩
  · have d1 : decide (0 ≤ S.halt) = false := decide_eq_false h1
    go_enter Try.func39, Try.ntmps39
    go_wp2
    go_quiet (fail)
    go_wp2
    go_ret
    exact ⟨by rw [d1]; simp, _, rfl⟩
set_option maxRecDepth 100000 in
set_option maxHeartbeats 400000 in
theorem halted_any (c3 : w.cell? ⟨d, 3, none⟩ = some (.int .i64 (S.calls : Nat))) (c4 : w.cell? ⟨d, 4, none⟩ = some (.int .i64 S.halt)) : Calls Try.prog 74 #[.pointer (some ⟨d, 0, none⟩)] w (RetQ (.bool S.over) w) := by
  unfold Di.over
  by_cases h1 : 0 ≤ S.halt
  · have d1 : decide (0 ≤ S.halt) = true := decide_eq_true h1
    go_enter Try.func74, Try.ntmps74
    go_wp2
    go_quiet (fail)
    go_wp2
    go_ret
    exact ⟨by rw [d1]; simp, _, rfl⟩
  · have d1 : decide (0 ≤ S.halt) = false := decide_eq_false h1
    go_enter Try.func74, Try.ntmps74
    go_wp2
    go_quiet (fail)
    go_wp2
    go_ret
    exact ⟨by rw [d1]; simp, _, rfl⟩
set_option maxRecDepth 100000 in
theorem calls_any (h : DirP w Z d S N p) : Calls Try.prog 21 #[.pointer (some ⟨d, 0, none⟩)] w (Ret (.int .i64 (S.calls : Nat)) w) := by
  have c3 : w.cell? ⟨d, 3, none⟩ = some (.int .i64 (S.calls : Nat)) := h.cell rfl
  clear h
  go_enter Try.func21, Try.ntmps21
  go_wp2
  go_ret
  exact ⟨rfl, rfl⟩
end
end Go.Proofs.Ythbgcmffpnmbeaa
