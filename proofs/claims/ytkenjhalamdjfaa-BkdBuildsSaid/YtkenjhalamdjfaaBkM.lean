/- Rows of points in memory. -/
import Derived.Test.YtkenjhalamdjfaaBkP
import Derived.Test.YtkenjhalamdjfaaInts
import Derived.Test.YtkenjhalamdjfaaOffT
namespace Go.Proofs.Ytkenjhalamdjfaa
set_option linter.unusedVariables false
set_option linter.unusedSimpArgs false
open Go.RowKit

abbrev Po := Pt
def InI (l : List Int) : Prop := ∀ x ∈ l, -9223372036854775808 ≤ x ∧ x ≤ 9223372036854775807
def noPo : Po := noPt
theorem take_snocP {l : List Po} {i : Nat} (h : i < l.length) : l.take (i + 1) = l.take i ++ [l.getD i noPo] := by
  rw [List.take_succ_eq_append_getElem h]
  congr 2
  simp [List.getElem?_eq_getElem h]
theorem getP_mem {b : List Po} {i : Nat} (h : i < b.length) : b.getD i noPo ∈ b := by
  rw [List.getD, List.getElem?_eq_getElem h]; exact List.getElem_mem _
/-- a post, where its positions lie, their slice's capacity. -/
abbrev PoL := Po × Option Addr × Nat
def pRow (p : PoL) : List Value := [.int .i64 p.1.1, .slice p.2.1 p.1.2.length p.2.2]
def pFlat (l : List PoL) : List Value := l.flatMap pRow
theorem pFlat_snoc (l : List PoL) (p : PoL) : pFlat (l ++ [p]) = pFlat l ++ pRow p := by simp [pFlat, List.flatMap_append]
theorem pFlat_len (l : List PoL) : (pFlat l).length = l.length * 2 := by
  induction l with
  | nil => rfl
  | cons p r ih => simp only [pFlat, List.flatMap_cons, List.length_append, List.length_cons] at ih ⊢; simp only [pRow, List.length_cons, List.length_nil]; omega
theorem pFlat_at : ∀ {l : List PoL} {k : Nat} {p : PoL}, l[k]? = some p → (pFlat l)[k * 2]? = some (.int .i64 p.1.1) ∧ (pFlat l)[k * 2 + 1]? = some (.slice p.2.1 p.1.2.length p.2.2)
  | [], k, p, h => by simp at h
  | q :: r, 0, p, h => by simp at h; subst h; exact ⟨rfl, rfl⟩
  | q :: r, k + 1, p, h => by
    have h2 := pFlat_at (l := r) (k := k) (p := p) (by simpa using h)
    have e : pFlat (q :: r) = pRow q ++ pFlat r := rfl
    rw [e, show (k + 1) * 2 = (pRow q).length + k * 2 by simp [pRow]; omega, List.getElem?_append_right (by omega), Nat.add_sub_cancel_left, Nat.add_assoc, List.getElem?_append_right (by omega), Nat.add_sub_cancel_left]
    exact h2
def InI2 (l : List Po) : Prop := ∀ x ∈ l, InI x.2 ∧ -9223372036854775808 ≤ x.1 ∧ x.1 ≤ 9223372036854775807
/-- a row of posts that is read. -/
structure RdPo (w : World) (B : Nat) (A : Option Addr) (l : List Po) : Prop where
  ex : ∃ ps : List PoL, ps.map (·.1) = l ∧ Rd w B A (pFlat ps) ∧ ∀ p ∈ ps, p.1.2.length ≤ p.2.2 ∧ p.2.2 ≤ maxLen ∧ Rd w B p.2.1 (iz .i64 p.1.2)
theorem RdPo.fr {S : Nat → Prop} {w w' : World} {B : Nat} {A : Option Addr} {l : List Po} (h : RdPo w B A l) (f : Fr S w w') (hS : ∀ k, k < B → ¬ S k) : RdPo w' B A l := by
  obtain ⟨ps, h1, h2, h3⟩ := h.ex
  exact ⟨ps, h1, h2.fr f hS, fun p hp => ⟨(h3 p hp).1, (h3 p hp).2.1, (h3 p hp).2.2.fr f hS⟩⟩
theorem RdPo.fr0 {w w' : World} {B : Nat} {A : Option Addr} {l : List Po} (h : RdPo w B A l) (f : Fr No w w') : RdPo w' B A l := h.fr f (fun _ _ h => h)
theorem RdPo.nil (w : World) (B : Nat) : RdPo w B none [] := ⟨[], rfl, Rd.nil _ _ _, fun p hp => nomatch hp⟩
theorem lit_add (a : Addr) (i j : Nat) (hj : j ≠ 0) : (a.add i).add j = ⟨(a.add i).block, (a.add i).off + j, none⟩ := by
  unfold Addr.add
  split <;> split <;> simp_all
/-- a post's two cells. -/
theorem RdPo.at {w : World} {B : Nat} {A : Option Addr} {l : List Po} (h : RdPo w B A l) {k : Nat} (hk : k < l.length) :
    ∃ (ad : Addr) (Ak : Option Addr) (c : Nat), A = some ad ∧ ad.block < B ∧ w.cell? (ad.add (k * 2)) = some (.int .i64 (l.getD k noPo).1) ∧
      w.cell? ⟨(ad.add (k * 2)).block, (ad.add (k * 2)).off + 1, none⟩ = some (.slice Ak (l.getD k noPo).2.length c) ∧ (l.getD k noPo).2.length ≤ c ∧ c ≤ maxLen ∧ Rd w B Ak (iz .i64 (l.getD k noPo).2) := by
  obtain ⟨ps, rfl, h2, h3⟩ := h.ex
  rw [List.length_map] at hk
  obtain ⟨p, hp⟩ : ∃ p, ps[k]? = some p := ⟨_, List.getElem?_eq_getElem hk⟩
  have e : (ps.map (·.1)).getD k noPo = p.1 := by simp [hp]
  rw [e]
  obtain ⟨a1, a2⟩ := pFlat_at hp
  obtain ⟨ad, h4, h5, h6⟩ := h2 _ _ a1
  obtain ⟨ad', h7, h8, h9⟩ := h2 _ _ a2
  rw [h4] at h7
  injection h7 with h7
  subst h7
  have h10 := h3 p (List.mem_of_getElem? hp)
  refine ⟨ad, p.2.1, p.2.2, h4, h5, h6, ?_, h10.1, h10.2.1, h10.2.2⟩
  rw [← lit_add ad (k * 2) 1 (by omega)]
  rw [show (ad.add (k * 2)).add 1 = ad.add (k * 2 + 1) from ?_]
  · exact h9
  · unfold Addr.add
    split <;> split <;> simp_all <;> omega

theorem getZ_mem {p : List Int} {k : Nat} (h : k < p.length) : p.getD k 0 ∈ p := by
  rw [List.getD, List.getElem?_eq_getElem h]
  exact List.getElem_mem _
theorem iz_get {p : List Int} {k : Nat} (h : k < p.length) : (iz .i64 p)[k]? = some (.int .i64 (p.getD k 0)) := by
  simp [iz, List.getElem?_map, List.getElem?_eq_getElem h]
/-- a position that is read. -/
theorem cellInt {w : World} {B : Nat} {A : Option Addr} {p : List Int} (h : Rd w B A (iz .i64 p)) {k : Nat} (hk : k < p.length) : ∃ ad, A = some ad ∧ ad.block < B ∧ w.cell? (ad.add k) = some (.int .i64 (p.getD k 0)) := h k _ (iz_get hk)

theorem add_litP (ad : Addr) (k : Nat) : ad.add (k * 2 + 1) = ⟨(ad.add (k * 2)).block, (ad.add (k * 2)).off + 1, none⟩ := by
  rw [← lit_add ad (k * 2) 1 (by omega)]
  rw [show (ad.add (k * 2)).add 1 = ad.add (k * 2 + 1) from ?_]
  unfold Addr.add
  split <;> split <;> simp_all <;> omega
theorem Try.infoBP : (Try.prog.info? 37).map (fun i => (i.zero, i.size, i.bytes)) = some (some (.agg #[.int .i64 0, .slice none 0 0]), 2, 32) := by kernel_rfl
theorem Try.infoRP : (Try.prog.info? 38).map (fun i => (i.zero, i.size, i.bytes)) = some (some (.agg #[.int .i64 0, .slice none 0 0]), 2, 32) := by kernel_rfl
theorem pRow_one (p : PoL) : ∀ u ∈ pRow p, u.oneCell' = true := by
  intro u hu
  simp only [pRow, List.mem_cons, List.not_mem_nil, or_false] at hu
  rcases hu with rfl | rfl <;> rfl
theorem pFlat_one (l : List PoL) : ∀ u ∈ pFlat l, u.oneCell' = true := by
  intro u hu
  obtain ⟨p, _, hp⟩ := List.mem_flatMap.1 hu
  exact pRow_one p u hp
end Go.Proofs.Ytkenjhalamdjfaa
