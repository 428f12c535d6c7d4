/- slices.SortFunc of points, in place, in a part of a block. -/
import Derived.Test.YtkenjhalamdjfaaBkM
import Derived.Test.YtkenjhalamdjfaaBkC
import Derived.Shelf.Lay
import Derived.Shelf.SlSortCmp.WholeK
import Derived.Ground.SlsfProg
namespace Go.Proofs.Ytkenjhalamdjfaa
set_option linter.unusedVariables false
set_option linter.unusedSimpArgs false
open Go.RowKit Go.Shelf Go.Lib Go.Sort
shelf_lay_g SlLaysF0.n6 Slsf 6 at Try 17 as Try.sortBP

/-- points in a part of a block. -/
structure ArrP (w : World) (G off : Nat) (ps : List PoL) : Prop where
  cell : ∀ j u, (pFlat ps)[j]? = some u → w.cell? ⟨G, off + j, none⟩ = some u ∧ w.frozen? ⟨G, off + j, none⟩ = false
  lt : G < w.heap.size
/-- what lies outside that part stays. -/
def Apart2 (w w' : World) (G lo hi : Nat) : Prop := ∀ i, (i < lo ∨ hi ≤ i) → w'.cell? ⟨G, i, none⟩ = w.cell? ⟨G, i, none⟩ ∧ w'.frozen? ⟨G, i, none⟩ = w.frozen? ⟨G, i, none⟩
/-- a point in memory: its place has so many numbers, and is read. -/
def OkPt (w : World) (B dims : Nat) (p : PoL) : Prop := p.1.2.length = dims ∧ p.1.2.length ≤ p.2.2 ∧ p.2.2 ≤ maxLen ∧ Rd w B p.2.1 (iz .i64 p.1.2)
theorem OkPt.fr {S : Nat → Prop} {w w' : World} {B dims : Nat} {p : PoL} (h : OkPt w B dims p) (f : Fr S w w') (hS : ∀ k, k < B → ¬ S k) : OkPt w' B dims p := ⟨h.1, h.2.1, h.2.2.1, h.2.2.2.fr f hS⟩
abbrev PtS (w : World) (B dims : Nat) := {p : PoL // OkPt w B dims p}
def encS {w : World} {B dims : Nat} (x : PtS w B dims) : List Value := pRow x.1
theorem encS_len {w : World} {B dims : Nat} (x : PtS w B dims) : (encS x).length = 2 := rfl
theorem encS_one {w : World} {B dims : Nat} (x : PtS w B dims) : ∀ v ∈ encS x, v.oneCell' = true := pRow_one x.1
def cmpS {w : World} {B dims : Nat} (d : Nat) (x y : PtS w B dims) : Int := cmpP d x.1.1 y.1.1
theorem ltOfS {w : World} {B dims : Nat} (d : Nat) (x y : PtS w B dims) : ltOf (cmpS d) x y = belP d x.1.1 y.1.1 := by
  unfold ltOf cmpS belP
  exact decide_eq_decide.2 (cmpP_lt (by rw [x.2.1, y.2.1]))
theorem belP_iff {d : Nat} {a b : Pt} : belP d a b = true ↔ keyP d a < keyP d b := ⟨fun h => of_decide_eq_true h, fun h => decide_eq_true (p := ltP d a b) h⟩
theorem belP_no {d : Nat} {a b : Pt} : belP d a b = false ↔ ¬ keyP d a < keyP d b := ⟨fun h => of_decide_eq_false h, fun h => decide_eq_false (p := ltP d a b) h⟩
theorem swoS {w : World} {B dims : Nat} (d : Nat) : SWO (ltOf (cmpS (w := w) (B := B) (dims := dims) d)) where
  irrefl x := by rw [ltOfS, belP_no]; exact li_irrefl _
  trans x y z h1 h2 := by rw [ltOfS, belP_iff] at *; exact li_trans h1 h2
  ntrans x y z h1 h2 := by
    rw [ltOfS, belP_no] at *
    exact List.not_lt.2 (List.le_trans (List.not_lt.1 h2) (List.not_lt.1 h1))
/-- the list of a row in memory. -/
theorem flat_at {w : World} {B dims : Nat} [Inhabited (PtS w B dims)] (d : Array (PtS w B dims)) (t : Nat) (h : t < d.size * 2) : (pFlat (d.toList.map (·.1)))[t]? = some ((flatK encS 2 d)[t]!) := by
  have hk : t / 2 < d.size := by omega
  have hp : (d.toList.map (·.1))[t / 2]? = some d[t / 2]!.1 := by
    rw [List.getElem?_map, Array.getElem?_toList, getElem!_pos d (t / 2) hk, Array.getElem?_eq_getElem hk]
    rfl
  obtain ⟨a1, a2⟩ := pFlat_at hp
  rw [get_flatK _ _ _ _ h]
  rcases Nat.mod_two_eq_zero_or_one t with e | e
  · rw [e]
    rw [show t = t / 2 * 2 by omega]
    rw [show t / 2 * 2 / 2 = t / 2 by omega]
    exact a1
  · rw [e]
    rw [show t = t / 2 * 2 + 1 by omega]
    rw [show (t / 2 * 2 + 1) / 2 = t / 2 by omega]
    exact a2
theorem holds_arr {w w' : World} {B dims G off : Nat} [Inhabited (PtS w B dims)] {d : Array (PtS w B dims)} (h : ArrP w' G off (d.toList.map (·.1))) : HoldsK encS 2 w' G off d := by
  intro j hj
  rw [size_flatK] at hj
  exact h.cell j _ (flat_at d j hj)
theorem arr_holds {w w' : World} {B dims G off : Nat} [Inhabited (PtS w B dims)] {d : Array (PtS w B dims)} (h : HoldsK encS 2 w' G off d) (hl : G < w'.heap.size) : ArrP w' G off (d.toList.map (·.1)) := by
  refine ⟨fun j u hu => ?_, hl⟩
  have hj := (List.getElem?_eq_some_iff.1 hu).1
  rw [pFlat_len, List.length_map, Array.length_toList] at hj
  rw [flat_at d j hj] at hu
  injection hu with hu
  subst hu
  exact h j (by rw [size_flatK]; exact hj)
theorem fr_sortW {α : Type} [Inhabited α] (enc : α → List Value) (w : World) (G off n : Nat) (d : Array α) (os : Array Obj) : Fr (Is G) w (sortWorldK enc 2 w G off n d os) := by
  refine ⟨rfl, rfl, rfl, by simp [sortWorldK, grow, putRowK, putRow, mapBlock, Sort.ahead], fun k hk hne => ?_⟩
  have hne : G ≠ k := fun e => hne e.symm
  rw [sortWorldK, heap_grow_old _ _ (by simpa [putRowK, putRow, mapBlock, Sort.ahead] using hk)]
  simp [putRowK, putRow, mapBlock, Sort.ahead, Array.getElem?_modify, hne]
theorem apart_sortW {α : Type} [Inhabited α] (enc : α → List Value) (w : World) (G off n : Nat) (d : Array α) (os : Array Obj) (hG : G < w.heap.size) : Apart2 w (sortWorldK enc 2 w G off n d os) G off (off + d.size * 2) := by
  intro i hi
  have hb : G < (putRowK enc 2 (Sort.ahead w n) G off d).heap.size := by simpa [putRowK, putRow, mapBlock, Sort.ahead] using hG
  constructor
  · rw [sortWorldK, cell?_grow _ _ _ hb, putRowK, cell?_putRow_other _ _ _ _ _ _ (by rw [size_flatK]; exact .inr hi)]
    rfl
  · rw [sortWorldK, frozen?_grow _ _ _ hb, putRowK, putRow, frozen?_mapBlock]
    rfl
end Go.Proofs.Ytkenjhalamdjfaa
