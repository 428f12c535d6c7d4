/- Rows of numbers in memory. -/
import Derived.Test.YthbgcmffpnmbeaaBase
namespace Go.Proofs.Ythbgcmffpnmbeaa
set_option linter.unusedVariables false
set_option linter.unusedSimpArgs false
open Go.RowKit

def iz (k : IntKind) (l : List Int) : List Value := l.map (Value.int k)
theorem iz_len (k : IntKind) (l : List Int) : (iz k l).length = l.length := by simp [iz]
theorem iz_append (k : IntKind) (l m : List Int) : iz k (l ++ m) = iz k l ++ iz k m := by simp [iz]
theorem iz_take (k : IntKind) (l : List Int) (n : Nat) : iz k (l.take n) = (iz k l).take n := by simp [iz, List.map_take]
theorem iz_drop (k : IntKind) (l : List Int) (n : Nat) : iz k (l.drop n) = (iz k l).drop n := by simp [iz, List.map_drop]
theorem iz_one (k : IntKind) (l : List Int) : ∀ u ∈ iz k l, u.oneCell' = true := by
  intro u hu
  obtain ⟨x, _, rfl⟩ := List.mem_map.1 hu
  rfl
theorem iz_at (k : IntKind) (l : List Int) {j : Nat} (h : j < l.length) : (iz k l)[j]? = some (.int k (l.getD j 0)) := by
  simp [iz, h]
theorem Rd.intAt {w : World} {B : Nat} {A : Option Addr} {k : IntKind} {l : List Int} (h : Rd w B A (iz k l)) {j : Nat} (hj : j < l.length) : ∃ ad, A = some ad ∧ ad.block < B ∧ w.cell? (ad.add j) = some (.int k (l.getD j 0)) :=
  h j _ (iz_at k l hj)
theorem take_succ_int {xs ys : List Int} {k : Nat} (h1 : k < xs.length) (h2 : k < ys.length) (h : xs.take k = ys.take k) (he : xs.getD k 0 = ys.getD k 0) : xs.take (k + 1) = ys.take (k + 1) := by
  rw [List.take_succ_eq_append_getElem h1, List.take_succ_eq_append_getElem h2, h]
  simp [List.getElem?_eq_getElem h1, List.getElem?_eq_getElem h2] at he
  rw [he]
theorem take_snoc_int {l : List Int} {k : Nat} (h : k < l.length) : l.take (k + 1) = l.take k ++ [l.getD k 0] := by
  rw [List.take_succ_eq_append_getElem h]
  simp [List.getElem?_eq_getElem h]
theorem Rd.iz_nil {w : World} {B : Nat} {k : IntKind} {l : List Int} (h : Rd w B none (iz k l)) : l = [] := by
  cases l with
  | nil => rfl
  | cons b r => obtain ⟨_, e, _⟩ := h 0 _ rfl; cases e
end Go.Proofs.Ythbgcmffpnmbeaa
