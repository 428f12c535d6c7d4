/- Two rows of numbers that share no memory. -/
import Derived.Test.YtpnhnnhocekchaaApart8b
import Derived.Test.YtpnhnnhocekchaaApartU64
import Derived.Test.YtpnhnnhocekchaaApartI64
namespace Go.Proofs.Ytpnhnnhocekchaa
set_option linter.unusedVariables false
set_option linter.unusedSimpArgs false
open Go.RowKit

theorem apartU64_two (q : Nat) (A1 A2 : Option Addr) (n1 n2 c1 c2 : Nat) (x1 x2 : List Value) (W : World) (h1 : n1 ≤ 2097152) (h2 : n2 ≤ 2097152)
    (hq : W.heap[q]? = some (.cells #[.slice A1 n1 c1, .slice A2 n2 c2] 22 (0, 0))) (o1 : Own W 0 52 1 (.slice A1 n1 c1) n1 x1) (o2 : Own W 0 52 1 (.slice A2 n2 c2) n2 x2)
    (d12 : ∀ k, (Value.slice A1 n1 c1).ownBlock = some k → (Value.slice A2 n2 c2).ownBlock ≠ some k) :
    Calls Try.prog 28 #[.slice (some ⟨q, 0, none⟩) 2 2] W (fun en w' => en = .returned (.bool true) ∧ Fr (fun k => (Value.slice A1 n1 c1).ownBlock = some k ∨ (Value.slice A2 n2 c2).ownBlock = some k) W w') := by
  refine (apartU64_any q 2 2 (pick2 A1 A2) (pick2 n1 n2) (pick2 c1 c2) _ W 0 (pick2 x1 x2) (by omega) ?_ (Nat.le_refl _) (by unfold maxLen; omega) hq ?_ ?_ ⟨?_⟩).mono ?_
  · intro j hj
    match j, hj with
    | 0, _ => exact h1
    | 1, _ => exact h2
  · intro j hj
    match j, hj with
    | 0, _ => rfl
    | 1, _ => rfl
  · intro j hj
    match j, hj with
    | 0, _ => exact o1
    | 1, _ => exact o2
  · intro i j hi hj hij k hk
    match i, hi, j, hj, hij with
    | 0, _, 1, _, _ => exact d12 k hk
    | 1, _, 0, _, _ => exact fun h => d12 k h hk
    | 0, _, 0, _, h => exact absurd rfl h
    | 1, _, 1, _, h => exact absurd rfl h
  · rintro en w' ⟨he, hf⟩
    refine ⟨he, hf.mono ?_⟩
    rintro k _ ⟨j, hj, hk⟩
    match j, hj with
    | 0, _ => exact .inl hk
    | 1, _ => exact .inr hk

theorem apartI64_two (q : Nat) (A1 A2 : Option Addr) (n1 n2 c1 c2 : Nat) (x1 x2 : List Value) (W : World) (h1 : n1 ≤ 2097152) (h2 : n2 ≤ 2097152)
    (hq : W.heap[q]? = some (.cells #[.slice A1 n1 c1, .slice A2 n2 c2] 41 (0, 0))) (o1 : Own W 0 2 1 (.slice A1 n1 c1) n1 x1) (o2 : Own W 0 2 1 (.slice A2 n2 c2) n2 x2)
    (d12 : ∀ k, (Value.slice A1 n1 c1).ownBlock = some k → (Value.slice A2 n2 c2).ownBlock ≠ some k) :
    Calls Try.prog 36 #[.slice (some ⟨q, 0, none⟩) 2 2] W (fun en w' => en = .returned (.bool true) ∧ Fr (fun k => (Value.slice A1 n1 c1).ownBlock = some k ∨ (Value.slice A2 n2 c2).ownBlock = some k) W w') := by
  refine (apartI64_any q 2 2 (pick2 A1 A2) (pick2 n1 n2) (pick2 c1 c2) _ W 0 (pick2 x1 x2) (by omega) ?_ (Nat.le_refl _) (by unfold maxLen; omega) hq ?_ ?_ ⟨?_⟩).mono ?_
  · intro j hj
    match j, hj with
    | 0, _ => exact h1
    | 1, _ => exact h2
  · intro j hj
    match j, hj with
    | 0, _ => rfl
    | 1, _ => rfl
  · intro j hj
    match j, hj with
    | 0, _ => exact o1
    | 1, _ => exact o2
  · intro i j hi hj hij k hk
    match i, hi, j, hj, hij with
    | 0, _, 1, _, _ => exact d12 k hk
    | 1, _, 0, _, _ => exact fun h => d12 k h hk
    | 0, _, 0, _, h => exact absurd rfl h
    | 1, _, 1, _, h => exact absurd rfl h
  · rintro en w' ⟨he, hf⟩
    refine ⟨he, hf.mono ?_⟩
    rintro k _ ⟨j, hj, hk⟩
    match j, hj with
    | 0, _ => exact .inl hk
    | 1, _ => exact .inr hk

end Go.Proofs.Ytpnhnnhocekchaa
