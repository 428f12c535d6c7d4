/- Terms of a prefix and of a range are those between two ordinals, in plain Lean. -/
import Derived.Test.YtcdhbdhhknlbaaaK12
namespace Go.Proofs.Ytcdhbdhhknlbaaa
set_option linter.unusedVariables false
set_option linter.unusedSimpArgs false
open Go.RowKit

theorem tl_cons {a b : UInt8} {x y : Tx} : (a :: x < b :: y) ↔ a < b ∨ (a = b ∧ x < y) := by
  rw [List.cons_lt_cons_iff]
theorem u8_ne {a b : UInt8} (h : a < b) : a ≠ b := fun e => by subst e; exact absurd h (UInt8.lt_irrefl a)
/-- between a text and one that begins with it, all begin with it. -/
theorem pre_mid : ∀ (p t u : Tx), ¬ t < p → ¬ u < t → u.take p.length = p → t.take p.length = p
  | [], t, u, _, _, _ => rfl
  | a :: p, [], u, h1, _, _ => absurd (List.nil_lt_cons a p) h1
  | a :: p, b :: t, [], _, _, h3 => by simp at h3
  | a :: p, b :: t, c :: u, h1, h2, h3 => by
    rw [List.length_cons, List.take_succ_cons, List.cons.injEq] at h3
    obtain ⟨rfl, h3⟩ := h3
    rw [tl_cons] at h1 h2
    have e : b = c := by
      rcases Nat.lt_trichotomy b.toNat c.toNat with h | h | h
      · exact absurd (.inl (UInt8.lt_iff_toNat_lt.2 h)) h1
      · exact UInt8.toNat_inj.1 h
      · exact absurd (.inl (UInt8.lt_iff_toNat_lt.2 h)) h2
    subst e
    have h4 : ¬ t < p := fun h => h1 (.inr ⟨rfl, h⟩)
    have h5 : ¬ u < t := fun h => h2 (.inr ⟨rfl, h⟩)
    rw [List.length_cons, List.take_succ_cons, pre_mid p t u h4 h5 h3]
/-- what begins with a text is not below it. -/
theorem pre_not_lt : ∀ (p u : Tx), u.take p.length = p → ¬ u < p
  | [], u, _ => tl_nil u
  | a :: p, [], h => by simp at h
  | a :: p, c :: u, h => by
    rw [List.length_cons, List.take_succ_cons, List.cons.injEq] at h
    obtain ⟨rfl, h⟩ := h
    rw [tl_cons]
    rintro (h2 | ⟨_, h2⟩)
    · exact u8_ne h2 rfl
    · exact pre_not_lt p u h h2
theorem pwN_at (p : Tx) : ∀ (l : List Tx) (i : Nat), i < pwN p l → (l.getD i []).take p.length = p
  | [], i, h => by simp [pwN] at h
  | t :: r, i, h => by
    rw [pwN] at h
    split at h
    · rename_i ht
      cases i with
      | zero => exact ht
      | succ i => exact pwN_at p r i (by omega)
    · omega
theorem pwN_all (p : Tx) : ∀ (l : List Tx) (i : Nat), i < l.length → (∀ j, j ≤ i → (l.getD j []).take p.length = p) → i < pwN p l
  | [], i, h, _ => by simp at h
  | t :: r, i, h, ha => by
    have h0 : t.take p.length = p := ha 0 (Nat.zero_le _)
    rw [pwN, if_pos h0]
    cases i with
    | zero => omega
    | succ i =>
      have := pwN_all p r i (by simpa using h) (fun j hj => ha (j + 1) (by omega))
      omega
theorem pre_iff {l : List Tx} (h : Asc l) {p : Tx} {i : Nat} (hi : i < l.length) : (l.getD i []).take p.length = p ↔ lowT l p ≤ i ∧ i < preT l p := by
  have hg : ∀ j, (l.drop (lowT l p)).getD j [] = l.getD (lowT l p + j) [] := fun j => by simp [List.getElem?_drop]
  unfold preT
  constructor
  · intro hp
    have h1 : lowT l p ≤ i := Nat.le_of_not_lt (fun h2 => pre_not_lt p _ hp ((low_iff h hi).2 h2))
    refine ⟨h1, ?_⟩
    have h2 := pwN_all p (l.drop (lowT l p)) (i - lowT l p) (by rw [List.length_drop]; omega) (fun j hj => by
      rw [hg]
      refine pre_mid p _ (l.getD i []) (fun h3 => ?_) (fun h3 => ?_) hp
      · have := (low_iff h (show lowT l p + j < l.length by omega)).1 h3
        omega
      · by_cases e : lowT l p + j = i
        · rw [e] at h3; exact tl_irrefl _ h3
        · exact tl_irrefl _ (tl_trans h3 (h.lt (by omega) hi)))
    omega
  · rintro ⟨h1, h2⟩
    have h3 := pwN_at p (l.drop (lowT l p)) (i - lowT l p) (by omega)
    rw [hg, show lowT l p + (i - lowT l p) = i by omega] at h3
    exact h3
theorem preT_le (l : List Tx) (p : Tx) : lowT l p ≤ preT l p ∧ preT l p ≤ l.length := by
  unfold preT
  have h1 := pwN_le p (l.drop (lowT l p))
  rw [List.length_drop] at h1
  have h2 := lowT_le l p
  omega
theorem range_iff {l : List Tx} (h : Asc l) {r s : Tx} {i : Nat} (hi : i < l.length) : (¬ l.getD i [] < r ∧ ¬ s < l.getD i []) ↔ lowT l r ≤ i ∧ i < max (lowT l r) (topT l s) := by
  have h1 := low_iff (s := r) h hi
  have h2 := top_iff (s := s) h hi
  constructor
  · rintro ⟨a, b⟩
    have c1 : lowT l r ≤ i := Nat.le_of_not_lt (fun c => a (h1.2 c))
    have c2 := h2.2 b
    omega
  · rintro ⟨a, b⟩
    exact ⟨fun c => by have := h1.1 c; omega, h2.1 (by omega)⟩
/-- each term is found at its place. -/
theorem find_at {l : List Tx} (h : Asc l) {i : Nat} (hi : i < l.length) : findV l (l.getD i []) = .tuple #[.int .i64 (i : Nat), .bool true] := by
  have e : lowT l (l.getD i []) = i := low_is h (Nat.le_of_lt hi) (fun j hj => h.lt hj hi) (fun _ => tl_irrefl _)
  unfold findV
  rw [e, if_pos ⟨hi, rfl⟩]
end Go.Proofs.Ytcdhbdhhknlbaaa
