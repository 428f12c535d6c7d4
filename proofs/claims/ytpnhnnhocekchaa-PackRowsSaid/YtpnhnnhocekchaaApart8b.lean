/- Lists of bytes that share no memory: two, and three. -/
import Derived.Test.YtpnhnnhocekchaaApart8
namespace Go.Proofs.Ytpnhnnhocekchaa
set_option linter.unusedVariables false
set_option linter.unusedSimpArgs false
open Go.RowKit

def pick2 {α : Type} (a b : α) : Nat → α | 0 => a | _ => b
def pick3 {α : Type} (a b c : α) : Nat → α | 0 => a | 1 => b | _ => c

theorem apart8_two (q : Nat) (A1 A2 : Option Addr) (n1 n2 c1 c2 : Nat) (x1 x2 : List Value) (W : World) (h1 : n1 ≤ 140737488350000) (h2 : n2 ≤ 140737488350000)
    (hq : W.heap[q]? = some (.cells #[.slice A1 n1 c1, .slice A2 n2 c2] 23 (0, 0))) (o1 : Own W 0 5 1 (.slice A1 n1 c1) n1 x1) (o2 : Own W 0 5 1 (.slice A2 n2 c2) n2 x2)
    (d12 : ∀ k, (Value.slice A1 n1 c1).ownBlock = some k → (Value.slice A2 n2 c2).ownBlock ≠ some k) :
    Calls Try.prog 27 #[.slice (some ⟨q, 0, none⟩) 2 2] W (fun en w' => en = .returned (.bool true) ∧ Fr (fun k => (Value.slice A1 n1 c1).ownBlock = some k ∨ (Value.slice A2 n2 c2).ownBlock = some k) W w') := by
  refine (apart8_any q 2 2 (pick2 A1 A2) (pick2 n1 n2) (pick2 c1 c2) _ W 0 (pick2 x1 x2) (by omega) ?_ (Nat.le_refl _) (by unfold maxLen; omega) hq ?_ ?_ ⟨?_⟩).mono ?_
  · intro j hj
    match j, hj with
    | 0, _ => exact h1
    | 1, _ => exact h2
  · intro j hj
    match j, hj with
    | 0, _ => rfl
    | 1, _ => rfl
  · intro j hj
    match j, hj with
    | 0, _ => exact o1
    | 1, _ => exact o2
  · intro i j hi hj hij k hk
    match i, hi, j, hj, hij with
    | 0, _, 1, _, _ => exact d12 k hk
    | 1, _, 0, _, _ => exact fun h => d12 k h hk
    | 0, _, 0, _, h => exact absurd rfl h
    | 1, _, 1, _, h => exact absurd rfl h
  · rintro en w' ⟨he, hf⟩
    refine ⟨he, hf.mono ?_⟩
    rintro k _ ⟨j, hj, hk⟩
    match j, hj with
    | 0, _ => exact .inl hk
    | 1, _ => exact .inr hk

theorem apart8_three (q : Nat) (A1 A2 A3 : Option Addr) (n1 n2 n3 c1 c2 c3 : Nat) (x1 x2 x3 : List Value) (W : World) (h1 : n1 ≤ 140737488350000) (h2 : n2 ≤ 140737488350000) (h3 : n3 ≤ 140737488350000)
    (hq : W.heap[q]? = some (.cells #[.slice A1 n1 c1, .slice A2 n2 c2, .slice A3 n3 c3] 23 (0, 0))) (o1 : Own W 0 5 1 (.slice A1 n1 c1) n1 x1) (o2 : Own W 0 5 1 (.slice A2 n2 c2) n2 x2) (o3 : Own W 0 5 1 (.slice A3 n3 c3) n3 x3)
    (d12 : ∀ k, (Value.slice A1 n1 c1).ownBlock = some k → (Value.slice A2 n2 c2).ownBlock ≠ some k) (d13 : ∀ k, (Value.slice A1 n1 c1).ownBlock = some k → (Value.slice A3 n3 c3).ownBlock ≠ some k) (d23 : ∀ k, (Value.slice A2 n2 c2).ownBlock = some k → (Value.slice A3 n3 c3).ownBlock ≠ some k) :
    Calls Try.prog 27 #[.slice (some ⟨q, 0, none⟩) 3 3] W (fun en w' => en = .returned (.bool true) ∧ Fr (fun k => (Value.slice A1 n1 c1).ownBlock = some k ∨ (Value.slice A2 n2 c2).ownBlock = some k ∨ (Value.slice A3 n3 c3).ownBlock = some k) W w') := by
  refine (apart8_any q 3 3 (pick3 A1 A2 A3) (pick3 n1 n2 n3) (pick3 c1 c2 c3) _ W 0 (pick3 x1 x2 x3) (by omega) ?_ (Nat.le_refl _) (by unfold maxLen; omega) hq ?_ ?_ ⟨?_⟩).mono ?_
  · intro j hj
    match j, hj with
    | 0, _ => exact h1
    | 1, _ => exact h2
    | 2, _ => exact h3
  · intro j hj
    match j, hj with
    | 0, _ => rfl
    | 1, _ => rfl
    | 2, _ => rfl
  · intro j hj
    match j, hj with
    | 0, _ => exact o1
    | 1, _ => exact o2
    | 2, _ => exact o3
  · intro i j hi hj hij k hk
    match i, hi, j, hj, hij with
    | 0, _, 1, _, _ => exact d12 k hk
    | 0, _, 2, _, _ => exact d13 k hk
    | 1, _, 2, _, _ => exact d23 k hk
    | 1, _, 0, _, _ => exact fun h => d12 k h hk
    | 2, _, 0, _, _ => exact fun h => d13 k h hk
    | 2, _, 1, _, _ => exact fun h => d23 k h hk
    | 0, _, 0, _, h => exact absurd rfl h
    | 1, _, 1, _, h => exact absurd rfl h
    | 2, _, 2, _, h => exact absurd rfl h
  · rintro en w' ⟨he, hf⟩
    refine ⟨he, hf.mono ?_⟩
    rintro k _ ⟨j, hj, hk⟩
    match j, hj with
    | 0, _ => exact .inl hk
    | 1, _ => exact .inr (.inl hk)
    | 2, _ => exact .inr (.inr hk)
end Go.Proofs.Ytpnhnnhocekchaa
