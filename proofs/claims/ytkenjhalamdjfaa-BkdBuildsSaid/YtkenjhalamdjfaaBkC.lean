/- How two points compare, plain: what the comparison answers. -/
import Derived.Test.YtkenjhalamdjfaaBkP
namespace Go.Proofs.Ytkenjhalamdjfaa
set_option linter.unusedVariables false
set_option linter.unusedSimpArgs false

def cmpI (x y : Int) : Int := if x < y then -1 else if y < x then 1 else 0
theorem cmpI_neg {x y : Int} : cmpI x y < 0 ↔ x < y := by unfold cmpI; split <;> (try split) <;> omega
theorem cmpI_zero {x y : Int} : cmpI x y = 0 ↔ x = y := by unfold cmpI; split <;> (try split) <;> omega
theorem cmpI_in (x y : Int) : cmpI x y = -1 ∨ cmpI x y = 0 ∨ cmpI x y = 1 := by unfold cmpI; split <;> (try split) <;> simp
/-- slices.Compare. -/
def cmpL : List Int → List Int → Int
  | [], [] => 0
  | [], _ :: _ => -1
  | _ :: _, [] => 1
  | x :: r, y :: s => if cmpI x y = 0 then cmpL r s else cmpI x y
theorem cmpL_in : ∀ r s : List Int, cmpL r s = -1 ∨ cmpL r s = 0 ∨ cmpL r s = 1
  | [], [] => by simp [cmpL]
  | [], _ :: _ => by simp [cmpL]
  | _ :: _, [] => by simp [cmpL]
  | x :: r, y :: s => by
    rw [cmpL]
    split
    · exact cmpL_in r s
    · exact cmpI_in x y
theorem cons_lt {x y : Int} {r s : List Int} : x :: r < y :: s ↔ x < y ∨ x = y ∧ r < s := List.cons_lt_cons_iff
theorem cmpL_snoc {m n : Int} : ∀ {r s : List Int}, r.length = s.length → ((r ++ [m] < s ++ [n]) ↔ (cmpL r s < 0 ∨ cmpL r s = 0 ∧ m < n))
  | [], [], _ => by
    rw [List.nil_append, List.nil_append, cons_lt]
    simp [cmpL]
  | x :: r, y :: s, h => by
    have h' : r.length = s.length := by simpa using h
    rw [List.cons_append, List.cons_append, cons_lt, cmpL_snoc h', cmpL]
    by_cases e : cmpI x y = 0
    · rw [if_pos e]
      have := cmpI_zero.1 e
      subst this
      have : ¬ x < x := Int.lt_irrefl x
      simp [this]
    · rw [if_neg e]
      have h1 : ¬ x = y := fun h => e (cmpI_zero.2 h)
      have h2 := cmpI_neg (x := x) (y := y)
      constructor
      · rintro (h3 | ⟨h3, _⟩)
        · exact .inl (h2.2 h3)
        · exact absurd h3 h1
      · rintro (h3 | ⟨h3, _⟩)
        · exact .inl (h2.1 h3)
        · exact absurd h3 e
  | [], _ :: _, h => by simp at h
  | _ :: _, [], h => by simp at h
/-- what the comparison answers. -/
def cmpP (d : Nat) (a b : Pt) : Int := if cmpI (a.2.getD d 0) (b.2.getD d 0) ≠ 0 then cmpI (a.2.getD d 0) (b.2.getD d 0) else if cmpL a.2 b.2 ≠ 0 then cmpL a.2 b.2 else cmpI a.1 b.1
theorem cmpP_lt {d : Nat} {a b : Pt} (h : a.2.length = b.2.length) : cmpP d a b < 0 ↔ ltP d a b := by
  unfold ltP keyP
  rw [cons_lt, cmpL_snoc h, cmpP]
  generalize a.2.getD d 0 = X
  generalize b.2.getD d 0 = Y
  generalize cmpL a.2 b.2 = L
  generalize a.1 = m
  generalize b.1 = n
  have h1 := cmpI_zero (x := X) (y := Y)
  have h2 := cmpI_neg (x := X) (y := Y)
  have h3 := cmpI_neg (x := m) (y := n)
  by_cases e : X = Y
  · rw [if_neg (fun h => h (h1.2 e))]
    by_cases e4 : L = 0
    · rw [if_neg (fun h => h e4)]
      constructor
      · intro h; exact .inr ⟨e, .inr ⟨e4, h3.1 h⟩⟩
      · rintro (h | ⟨_, h | ⟨_, h⟩⟩)
        · omega
        · omega
        · exact h3.2 h
    · rw [if_pos e4]
      constructor
      · intro h; exact .inr ⟨e, .inl h⟩
      · rintro (h | ⟨_, h | ⟨h, _⟩⟩)
        · omega
        · exact h
        · exact absurd h e4
  · rw [if_pos (fun h => e (h1.1 h))]
    constructor
    · intro h; exact .inl (h2.1 h)
    · rintro (h | ⟨h, _⟩)
      · exact h2.2 h
      · exact absurd h e
/-- below, the document's. -/
def belP (d : Nat) (a b : Pt) : Bool := decide (ltP d a b)
theorem belP_eq {d : Nat} {a b : Pt} (h : a.2.length = b.2.length) : belP d a b = (if a.2.getD d 0 ≠ b.2.getD d 0 then decide (a.2.getD d 0 < b.2.getD d 0) else if cmpL a.2 b.2 ≠ 0 then decide (cmpL a.2 b.2 < 0) else decide (a.1 < b.1)) := by
  unfold belP
  have h1 := cmpP_lt (d := d) h
  rw [show decide (ltP d a b) = decide (cmpP d a b < 0) from decide_eq_decide.2 h1.symm, cmpP]
  generalize a.2.getD d 0 = X
  generalize b.2.getD d 0 = Y
  generalize cmpL a.2 b.2 = L
  generalize a.1 = m
  generalize b.1 = n
  have h1 := cmpI_zero (x := X) (y := Y)
  have h2 := cmpI_neg (x := X) (y := Y)
  have h3 := cmpI_neg (x := m) (y := n)
  by_cases e : X = Y
  · have e1 : ¬ (cmpI X Y ≠ 0) := fun h => h (h1.2 e)
    have e2 : ¬ (X ≠ Y) := fun h => h e
    rw [if_neg e1, if_neg e2]
    by_cases e4 : L = 0
    · have e5 : ¬ (L ≠ 0) := fun h => h e4
      rw [if_neg e5, if_neg e5]
      exact decide_eq_decide.2 h3
    · rw [if_pos e4, if_pos e4]
  · rw [if_pos e, if_pos (fun h => e (h1.1 h))]
    exact decide_eq_decide.2 h2
theorem cmpL_drop {r s : List Int} {k : Nat} (h1 : k < r.length) (h2 : k < s.length) : cmpL (r.drop k) (s.drop k) = if cmpI (r.getD k 0) (s.getD k 0) = 0 then cmpL (r.drop (k + 1)) (s.drop (k + 1)) else cmpI (r.getD k 0) (s.getD k 0) := by
  rw [List.drop_eq_getElem_cons h1, List.drop_eq_getElem_cons h2, cmpL, List.getD, List.getElem?_eq_getElem h1, List.getD, List.getElem?_eq_getElem h2]
  rfl
theorem cmpL_done {r s : List Int} (h : r.length = s.length) : cmpL (r.drop r.length) (s.drop r.length) = 0 := by
  rw [List.drop_length, h, List.drop_length]
  rfl
/-- two halves in order, put together. -/
theorem sort_merge (d k : Nat) (l : List Pt) : (sortP d (l.take k)).merge (sortP d (l.drop k)) (leP d) = sortP d l := by
  refine sortP_uniq ?_ ?_
  · refine (List.merge_perm_append _).trans ?_
    refine ((sortP_perm d _).append (sortP_perm d _)).trans ?_
    rw [List.take_append_drop]
  · exact List.pairwise_merge (leP_trans d) (fun a b => by simpa using leP_total d a b) _ _ (sortP_up d _) (sortP_up d _)
theorem sort_short {d : Nat} {l : List Pt} (h : l.length < 2) : sortP d l = l := by
  match l, h with
  | [], _ => simp [sortP]
  | [x], _ => simp [sortP]
  | _ :: _ :: _, h => simp at h; omega
theorem merge_b {d : Nat} {y : Pt} {r s : List Pt} (h : r = [] ∨ ∃ x t, r = x :: t ∧ leP d x y = false) : r.merge (y :: s) (leP d) = y :: r.merge s (leP d) := by
  rcases h with rfl | ⟨x, t, rfl, h⟩
  · simp [List.merge]
  · rw [List.cons_merge_cons, if_neg (by rw [h]; exact Bool.false_ne_true)]
theorem merge_a {d : Nat} {x : Pt} {t s : List Pt} (h : s = [] ∨ ∃ y r, s = y :: r ∧ leP d x y = true) : (x :: t).merge s (leP d) = x :: t.merge s (leP d) := by
  rcases h with rfl | ⟨y, r, rfl, h⟩
  · simp [List.merge]
  · rw [List.cons_merge_cons, if_pos h]
theorem leP_bel {d : Nat} {x y : Pt} : leP d x y = !belP d y x := by
  unfold leP belP
  by_cases h : ltP d y x <;> simp [h]
end Go.Proofs.Ytkenjhalamdjfaa
