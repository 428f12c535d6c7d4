/- Frames that write no block of one type. -/
import Derived.Test.YtkenjhalamdjfaaMem
namespace Go.Proofs.Ytkenjhalamdjfaa
set_option linter.unusedVariables false
set_option linter.unusedSimpArgs false
open Go.RowKit

theorem Own.cellsT {w : World} {base e size n : Nat} {v : Value} {xs : List Value} (h : Own w base e size v n xs) {k : Nat} (hk : v.ownBlock = some k) : base ≤ k ∧ ∃ cs fz, w.heap[k]? = some (.cells cs e fz) := by
  refine ⟨(h.lt k hk).1, ?_⟩
  obtain ⟨_, A, c, rfl, _, _, hA⟩ := h
  rcases hA with ⟨rfl, _⟩ | ⟨g, cur, rfl, _, hh, _⟩
  · cases hk
  · have e : g = k := Option.some.inj hk
    subst e
    exact ⟨_, _, hh⟩
/-- a frame that writes no block of one type. -/
def Off (S : Nat → Prop) (w : World) (t : TypeId) : Prop := ∀ k cs fz, w.heap[k]? = some (.cells cs t fz) → ¬ S k
theorem Own.off {S : Nat → Prop} {w w' : World} {base e size n : Nat} {v : Value} {xs : List Value} (h : Own w base e size v n xs) (f : Fr S w w') (hS : Off S w e) : Own w' base e size v n xs :=
  h.fr f (fun k hk => by
    obtain ⟨_, cs, fz, hh⟩ := h.cellsT hk
    exact hS k cs fz hh)
theorem off_is {w : World} {g : Nat} {cs : Array Value} {t t' : TypeId} {fz : Nat × Nat} (h : w.heap[g]? = some (.cells cs t fz)) (hne : t' ≠ t) : Off (Is g) w t' := by
  intro k cs' fz' hk e
  have e : k = g := e
  subst e
  rw [h] at hk
  injection hk with hk
  injection hk with _ hk _
  exact hne hk.symm
theorem off_own {w : World} {base e size n : Nat} {v : Value} {xs : List Value} (h : Own w base e size v n xs) {t : TypeId} (hne : t ≠ e) : Off (fun k => v.ownBlock = some k) w t := by
  intro k cs fz hk hv
  obtain ⟨_, cs', fz', hh⟩ := h.cellsT hv
  rw [hh] at hk
  injection hk with hk
  injection hk with _ hk _
  exact hne hk.symm


end Go.Proofs.Ytkenjhalamdjfaa
