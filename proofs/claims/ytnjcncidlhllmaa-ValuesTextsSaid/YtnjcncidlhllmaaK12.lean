/- Several texts in one: TxV, SetP, SortT, CompT, TSl, KitS, LentT, VaTe, PutV, SetW, TexP, RefTe. -/
import Derived.Test.YtnjcncidlhllmaaK11
import Derived.Sort.Walk0
import Derived.Lib.SlicesCompact
import Derived.Shelf.Lay
import Derived.Shelf.SlGeneric
import Derived.Shelf.SortM.Plain
import Derived.Shelf.SortM.SortNone
import Derived.Ground.SlgmProg
import Derived.Sort.OwnSorted
import Derived.Ground.NamesProg
import Derived.Ground.Names2Prog
import Derived.Shelf.Slices.CompactS
import Derived.Shelf.Spec.SearchS
import Derived.Lib.RowBridge
import Derived.Laws.CopyOwn
import Derived.IntWalk
import Derived.Deep.RegionLaw
import Derived.BigQuiet
import Derived.Maps.Own
import Derived.Maps.OwnOps
import Derived.Maps.OwnSet
namespace Go.Proofs.Ytnjcncidlhllmaa
set_option linter.unusedVariables false
set_option linter.unusedSimpArgs false
open Go.RowKit

abbrev Tx := List UInt8
def sv (t : Tx) : Value := .string ⟨t.toArray⟩
def svs (l : List Tx) : List Value := l.map sv
theorem svs_len (l : List Tx) : (svs l).length = l.length := by simp [svs]
theorem svs_snoc (l : List Tx) (t : Tx) : svs (l ++ [t]) = svs l ++ [sv t] := by simp [svs]
theorem svs_get {l : List Tx} {k : Nat} (h : k < l.length) : (svs l)[k]? = some (sv (l.getD k [])) := by
  simp [svs, List.getElem?_eq_getElem h]
theorem sv_inj {s t : Tx} (h : sv s = sv t) : s = t := by
  unfold sv at h
  injection h with h
  injection h with h
  have := congrArg Array.toList h
  simpa using this
theorem tx_list (t : Tx) : (ByteArray.mk t.toArray).toList = t := by rw [ByteArray.toList_eq]
theorem tx_size (t : Tx) : (ByteArray.mk t.toArray).size = t.length := by simp [ByteArray.size]
theorem tx_lt (s t : Tx) : Op.bytesLess (ByteArray.mk s.toArray).toList (ByteArray.mk t.toArray).toList = decide (s < t) := by rw [tx_list, tx_list, bytesLess_eq]
theorem tx_eq (s t : Tx) : ((ByteArray.mk s.toArray).toList == (ByteArray.mk t.toArray).toList) = decide (s = t) := by
  rw [tx_list, tx_list]
  by_cases h : s = t <;> simp [h]

theorem tl_irrefl (s : Tx) : ¬ s < s := List.lt_irrefl s
theorem tl_trans {s t u : Tx} (h : s < t) (k : t < u) : s < u := List.lt_trans h k
theorem tl_total (s t : Tx) : s < t ∨ s = t ∨ t < s := by
  by_cases h1 : s < t
  · exact .inl h1
  · by_cases h2 : t < s
    · exact .inr (.inr h2)
    · exact .inr (.inl (List.le_antisymm (List.not_lt.1 h2) (List.not_lt.1 h1)))
theorem tl_nil (s : Tx) : ¬ s < [] := List.not_lt_nil s

theorem take_getD {α : Type} {l : List α} {m : Nat} (d : α) (h : m < l.length) : l.take (m + 1) = l.take m ++ [l.getD m d] := by
  rw [List.take_succ_eq_append_getElem h]
  congr 2
  simp [List.getElem?_eq_getElem h]
theorem getD_mem {l : List Tx} {k : Nat} (h : k < l.length) : l.getD k [] ∈ l := by
  rw [List.getD, List.getElem?_eq_getElem h]
  exact List.getElem_mem _
theorem Try.infoS : (Try.prog.info? 9).map (fun i => (i.zero, i.size, i.bytes)) = some (some (.string ⟨#[]⟩), 1, 16) := by kernel_rfl
/-- a text of a row that is read. -/
theorem cellStr {w : World} {B : Nat} {A : Option Addr} {l : List Tx} (h : Rd w B A (svs l)) {k : Nat} (hk : k < l.length) :
    ∃ (ad : Addr) (X : ByteArray), A = some ad ∧ ad.block < B ∧ w.cell? (ad.add k) = some (.string X) ∧ X.data.toList = l.getD k [] ∧ X.toList = l.getD k [] ∧ X.size = (l.getD k []).length := by
  obtain ⟨ad, h1, h2, h3⟩ := h k _ (svs_get hk)
  exact ⟨ad, ⟨(l.getD k []).toArray⟩, h1, h2, h3, rfl, tx_list _, tx_size _⟩
end Go.Proofs.Ytnjcncidlhllmaa
namespace Go.Proofs.Ytnjcncidlhllmaa
set_option linter.unusedVariables false
set_option linter.unusedSimpArgs false
open Go.RowKit

abbrev RwT := List (List Tx)
def sortT (l : List Tx) : List Tx := l.mergeSort (fun x y => decide (x ≤ y))
def leT (l : List Tx) : Prop := l.Pairwise (· ≤ ·)
def ltT (l : List Tx) : Prop := l.Pairwise (· < ·)
theorem tx_le_trans {a b c : Tx} (h1 : a ≤ b) (h2 : b ≤ c) : a ≤ c := List.le_trans h1 h2
theorem tx_le_total (a b : Tx) : a ≤ b ∨ b ≤ a := List.le_total a b
theorem sortT_le (l : List Tx) : leT (sortT l) := by
  have h := List.pairwise_mergeSort (le := fun x y : Tx => decide (x ≤ y)) (fun a b c h1 h2 => by simp only [decide_eq_true_eq] at *; exact tx_le_trans h1 h2) (fun a b => by simp only [Bool.or_eq_true, decide_eq_true_eq]; exact tx_le_total a b) l
  exact h.imp (fun h => of_decide_eq_true h)
theorem sortT_perm (l : List Tx) : (sortT l).Perm l := List.mergeSort_perm l _
theorem sortT_len (l : List Tx) : (sortT l).length = l.length := List.length_mergeSort l
theorem sortT_nil : sortT [] = [] := by simp [sortT]
/-- texts in order, each once. -/
def setT (l : List Tx) : List Tx := Lib.compact (sortT l)
theorem tx_lt_of_le_ne {a b : Tx} (h : a ≤ b) (hne : a ≠ b) : a < b := by
  rcases tl_total a b with h1 | h1 | h1
  · exact h1
  · exact absurd h1 hne
  · exact absurd h1 (List.not_lt.2 h)
theorem compact_step (l : List Tx) (h : leT l) : ∀ m, m ≤ l.length → ltT (Lib.compactUpTo l.toArray m) ∧ (∀ t, t ∈ Lib.compactUpTo l.toArray m ↔ t ∈ l.take m) ∧ (∀ t ∈ Lib.compactUpTo l.toArray m, ∀ k, m - 1 = k → t ≤ l.getD k [])
  | 0, _ => by simp [Lib.compactUpTo, ltT]
  | m + 1, hm => by
    obtain ⟨h1, h2, h3⟩ := compact_step l h m (by omega)
    have hlt : m < l.length := hm
    have hget : l.toArray[m]! = l.getD m [] := by simp [List.getD, List.getElem?_eq_getElem hlt, getElem!_pos, hlt]
    have hle : ∀ t ∈ l.take m, t ≤ l.getD m [] := fun t ht => by
      obtain ⟨i, hi, rfl⟩ := List.getElem_of_mem ht
      rw [List.length_take] at hi
      rw [List.getElem_take, List.getD, List.getElem?_eq_getElem hlt]
      exact List.pairwise_iff_getElem.1 h i m (by omega) hlt (by omega)
    rw [Lib.compactUpTo_succ, hget, take_getD [] hlt]
    by_cases hk : Lib.keeps l.toArray m = true
    · rw [if_pos hk]
      have hlast : ∀ t ∈ Lib.compactUpTo l.toArray m, t < l.getD m [] := fun t ht => by
        have hm0 : 0 < m := by
          rcases Nat.eq_zero_or_pos m with e | e
          · subst e; simp [Lib.compactUpTo] at ht
          · exact e
        have hlt1 : m - 1 < l.length := by omega
        have hp : l.toArray[m - 1]! = l.getD (m - 1) [] := by simp [List.getD, List.getElem?_eq_getElem hlt1, getElem!_pos, hlt1]
        have hne : l.getD (m - 1) [] ≠ l.getD m [] := by
          unfold Lib.keeps at hk
          have := of_decide_eq_true hk
          rcases this with h | h
          · omega
          · rw [hget, hp] at h; exact fun e => h e.symm
        have hle1 := h3 t ht (m - 1) rfl
        have hle2 : l.getD (m - 1) [] ≤ l.getD m [] := hle _ (by
          rw [List.getD, List.getElem?_eq_getElem hlt1]
          exact List.mem_take_iff_getElem.2 ⟨m - 1, by omega, rfl⟩)
        have := tx_lt_of_le_ne hle2 hne
        exact List.lt_of_le_of_lt hle1 this
      refine ⟨?_, fun t => ?_, fun t ht k hk => ?_⟩
      · unfold ltT
        rw [List.pairwise_append]
        exact ⟨h1, by simp, fun a ha b hb => by rw [List.mem_singleton.1 hb]; exact hlast a ha⟩
      · rw [List.mem_append, List.mem_append, h2]
      · have e : k = m := by omega
        subst e
        rcases List.mem_append.1 ht with ht | ht
        · exact hle t ((h2 t).1 ht)
        · rw [List.mem_singleton.1 ht]; exact List.le_refl _
    · have hk' : Lib.keeps l.toArray m = false := by simpa using hk
      rw [hk', if_neg (by decide), List.append_nil]
      have hm0 : 0 < m := by
        rcases Nat.eq_zero_or_pos m with e | e
        · subst e; simp [Lib.keeps] at hk'
        · exact e
      have hlt1 : m - 1 < l.length := by omega
      have hp : l.toArray[m - 1]! = l.getD (m - 1) [] := by simp [List.getD, List.getElem?_eq_getElem hlt1, getElem!_pos, hlt1]
      have heq : l.getD m [] = l.getD (m - 1) [] := by
        unfold Lib.keeps at hk'
        have := of_decide_eq_false hk'
        rw [hget, hp] at this
        exact Classical.byContradiction fun e => this (.inr e)
      have hmem : l.getD m [] ∈ l.take m := by
        rw [heq, List.getD, List.getElem?_eq_getElem hlt1]
        exact List.mem_take_iff_getElem.2 ⟨m - 1, by omega, rfl⟩
      refine ⟨h1, fun t => ?_, fun t ht k hk => ?_⟩
      · rw [h2, List.mem_append, List.mem_singleton]
        exact ⟨.inl, fun h => h.elim id (fun e => e ▸ hmem)⟩
      · have e : k = m := by omega
        subst e
        exact hle t ((h2 t).1 ht)
theorem compact_set {l : List Tx} (h : leT l) : ltT (Lib.compact l) ∧ ∀ t, t ∈ Lib.compact l ↔ t ∈ l := by
  obtain ⟨h1, h2, _⟩ := compact_step l h l.length (Nat.le_refl _)
  rw [List.take_length] at h2
  exact ⟨h1, h2⟩
theorem setT_lt (l : List Tx) : ltT (setT l) := (compact_set (sortT_le l)).1
theorem setT_mem (l : List Tx) (t : Tx) : t ∈ setT l ↔ t ∈ l := by
  rw [setT, (compact_set (sortT_le l)).2]
  exact (sortT_perm l).mem_iff
theorem ltT_nodup {l : List Tx} (h : ltT l) : l.Nodup := h.imp (fun h e => by rw [e] at h; exact tl_irrefl _ h)
/-- strictly ascending rows of the same texts are the same. -/
theorem ltT_ext {l m : List Tx} (h1 : ltT l) (h2 : ltT m) (h : ∀ t, t ∈ l ↔ t ∈ m) : l = m :=
  ((List.perm_ext_iff_of_nodup (ltT_nodup h1) (ltT_nodup h2)).2 h).eq_of_pairwise (fun a b _ _ h1 h2 => absurd (tl_trans h1 h2) (tl_irrefl _)) h1 h2
theorem setT_of {l m : List Tx} (h1 : ltT m) (h : ∀ t, t ∈ m ↔ t ∈ l) : setT l = m := ltT_ext (setT_lt l) h1 (fun t => by rw [setT_mem, h])
theorem setT_of_lt {l : List Tx} (h : ltT l) : setT l = l := setT_of h (fun _ => Iff.rfl)
theorem setT_le (l : List Tx) : (setT l).length ≤ l.length := by
  have h : (setT l).length ≤ (sortT l).length := by
    unfold setT Lib.compact Lib.compactUpTo
    rw [List.length_map]
    exact Nat.le_trans (List.length_filter_le _ _) (by simp)
  rwa [sortT_len] at h
theorem setT_nil : setT [] = [] := setT_of_lt (by simp [ltT])
/-- rows that may be kept. -/
def okR (rows : RwT) : Prop := rows.length ≤ 16384 ∧ ∀ l ∈ rows, l.length ≤ 64
def sortR (rows : RwT) : RwT := rows.map sortT
end Go.Proofs.Ytnjcncidlhllmaa
namespace Go.Proofs.Ytnjcncidlhllmaa
open Go.Shelf Go.RowKit Go.Lib Go.Sort
shelf_lay_g SlLaysM.n6 Slgm 6 at Try 45 as Try.sortStr
/-- a slice of the call's own, sorted. -/
theorem sortT_any (base n c : Nat) (A : Option Addr) (xs : List Tx) (w : World) (h : Own w base 9 1 (.slice A n c) n (svs xs)) (hb : n ≤ 4611686018427387903) :
    Calls Try.prog 45 #[.slice A n c] w (fun en w' => en = .returned (.tuple #[]) ∧ Own w' base 9 1 (.slice A n c) n (svs (sortT xs)) ∧ Fr (fun k => (Value.slice A n c).ownBlock = some k) w w') := by
  obtain ⟨hl, A', c', hv, hn, hm, hA⟩ := h
  injection hv with h1 h2 h3
  subst h1; subst h3
  rw [svs_len, Nat.mul_one] at hl
  rcases hA with ⟨rfl, rfl⟩ | ⟨g, cur, rfl, hb', hh, hcs, ht⟩
  · have h0 : n = 0 := by omega
    subst h0
    have hx : xs = [] := List.eq_nil_of_length_eq_zero hl
    subst hx
    refine (AnyM.slices_Sort_string_none Try.sortStr none 0 w).mono ?_
    rintro en w' ⟨rfl, rfl⟩
    refine ⟨rfl, ?_, Fr.refl _ _⟩
    rw [sortT_nil]
    exact Own.nil _ _ _ _
  · have hH : Holds (encStr) w g 0 xs.toArray := holds_of_block hh (by rw [hl]; rw [Nat.mul_one] at ht; exact ht)
    have hc := AnyM.slices_Sort_string Try.sortStr g 0 c xs w hH (Array.getElem?_eq_some_iff.1 hh).1 (by omega)
    rw [hl] at hc
    refine hc.mono ?_
    rintro en w' ⟨rfl, nn, os, rfl⟩
    have hsl : (xs.mergeSort fun x y => decide (x ≤ y)).length = xs.length := List.length_mergeSort xs
    have hsz : (xs.mergeSort fun x y => decide (x ≤ y)).length ≤ cur.size := by rw [hsl]; omega
    obtain ⟨g1, g2, g3, g4, g5⟩ := grownBy_sorted (w := w) (g := g) (n := nn) (os := os) (xs.mergeSort fun x y => decide (x ≤ y)).toArray
    refine ⟨rfl, ⟨by rw [svs_len, sortT_len, hl]; omega, _, c, rfl, hn, hm, .inr ⟨g, _, rfl, hb', heap_sorted _ hh, by simpa [putCells] using hcs, ?_⟩⟩, ⟨g1, g2, g3, g4, fun k hk hne => g5 k hk (fun e => hne e.symm)⟩⟩
    have := take_putCells cur (xs.mergeSort fun x y => decide (x ≤ y)) hsz
    rw [hsl, hl] at this
    rw [Nat.mul_one]
    exact this
end Go.Proofs.Ytnjcncidlhllmaa
namespace Go.Proofs.Ytnjcncidlhllmaa
open Go.Shelf Go.RowKit Go.Lib Go.Sort
shelf_lay Lays.n194 Nm 194 at Try as Try.compactStr
shelf_lay Lays2.n26 Nm2 26 at Try as Try.searchStr
theorem heap_putT {w : World} {g n : Nat} {cur : Array Value} {e : TypeId} {fr : Nat × Nat} (d : Array Tx) (hb : w.heap[g]? = some (.cells cur e fr)) :
    (putRow encStr (Sort.ahead w n) g 0 d).heap[g]? = some (.cells (putCells encStr 0 d cur) e fr) := by
  simp [putRow, mapBlock, Sort.ahead, Array.getElem?_modify, hb, onCells]
theorem fr_putT {w : World} {g n : Nat} (d : Array Tx) : Fr (fun k => g = k) w (putRow encStr (Sort.ahead w n) g 0 d) := by
  refine ⟨rfl, rfl, rfl, by simp [putRow, mapBlock, Sort.ahead], fun k hk hne => ?_⟩
  simp [putRow, mapBlock, Sort.ahead, Array.getElem?_modify, hne]
/-- a slice of the call's own, each text once. -/
theorem compactT_any (base n c : Nat) (A : Option Addr) (xs : List Tx) (w : World) (h : Own w base 9 1 (.slice A n c) n (svs xs)) (hb : n ≤ 4611686018427387903) :
    Calls Try.prog 44 #[.slice A n c] w (fun en w' => en = .returned (.slice A (compact xs).length c) ∧ Own w' base 9 1 (.slice A (compact xs).length c) (compact xs).length (svs (compact xs)) ∧ Fr (fun k => (Value.slice A n c).ownBlock = some k) w w') := by
  obtain ⟨hl, A', c', hv, hn, hm, hA⟩ := h
  injection hv with h1 h2 h3
  subst h1; subst h3
  rw [svs_len, Nat.mul_one] at hl
  have hle := compact_length_le xs
  rcases hA with ⟨rfl, rfl⟩ | ⟨g, cur, rfl, hb', hh, hcs, ht⟩
  · have h0 : n = 0 := by omega
    subst h0
    have hx : xs = [] := List.eq_nil_of_length_eq_zero hl
    subst hx
    refine (Any.slices_Compact_string_empty Try.compactStr none 0 w).mono ?_
    rintro en w' ⟨rfl, rfl⟩
    exact ⟨rfl, Own.nil _ _ _ _, Fr.refl _ _⟩
  · have hH : Holds (encStr) w g 0 xs.toArray := holds_of_block hh (by rw [hl]; rw [Nat.mul_one] at ht; exact ht)
    have hc := Any.slices_Compact_string Try.compactStr g 0 c xs w hH (by omega) (by omega)
    rw [hl] at hc
    refine hc.mono ?_
    rintro en w' ⟨rfl, q, rfl⟩
    refine ⟨rfl, ⟨by rw [svs_len, Nat.mul_one], _, c, rfl, by omega, hm, .inr ⟨g, _, rfl, hb', heap_putT _ hh, by simpa [putCells] using hcs, ?_⟩⟩, (fr_putT _).mono ?_⟩
    · have h1 := take_putCells cur (compact xs ++ List.replicate (n - (compact xs).length) []) (by simp; omega)
      have h2 := congrArg (List.take (compact xs).length) h1
      rw [List.take_take, ← List.map_take, List.take_left, Nat.min_eq_left (by simp)] at h2
      rw [Nat.mul_one]
      exact h2
    · intro k _ hk
      rw [← hk]
      rfl
/-- a text's number among texts in order. -/
def ordT (l : List Tx) (t : Tx) : Nat := (l.takeWhile (fun s => decide (s < t))).length
theorem ordT_le (l : List Tx) (t : Tx) : ordT l t ≤ l.length := by
  have h := congrArg List.length (List.takeWhile_append_dropWhile (p := fun s => decide (s < t)) (l := l))
  rw [List.length_append] at h
  unfold ordT
  omega
theorem ordT_below (l : List Tx) (t : Tx) {j : Nat} (h : j < ordT l t) : l.getD j [] < t := by
  induction l generalizing j with
  | nil => simp [ordT] at h
  | cons x r ih =>
    unfold ordT at h
    rw [List.takeWhile_cons] at h
    split at h
    · rename_i hx
      cases j with
      | zero => simpa using hx
      | succ j =>
        rw [List.length_cons] at h
        have := ih (j := j) (by unfold ordT; omega)
        simpa using this
    · simp at h
theorem ordT_above {l : List Tx} (hl : ltT l) (t : Tx) {j : Nat} (h : ordT l t ≤ j) (hj : j < l.length) : ¬ l.getD j [] < t := by
  induction l generalizing j with
  | nil => simp at hj
  | cons x r ih =>
    have hr : ltT r := (List.pairwise_cons.1 hl).2
    have hx := (List.pairwise_cons.1 hl).1
    unfold ordT at h
    rw [List.takeWhile_cons] at h
    split at h
    · rename_i hxt
      cases j with
      | zero => simp at h
      | succ j =>
        rw [List.length_cons] at h hj
        have := ih hr (j := j) (by unfold ordT; omega) (by omega)
        simpa using this
    · rename_i hxt
      have hxt : ¬ x < t := by simpa using hxt
      cases j with
      | zero => simpa using hxt
      | succ j =>
        rw [List.length_cons] at hj
        have hm : r.getD j [] ∈ r := by
          rw [List.getD, List.getElem?_eq_getElem (by omega)]
          exact List.getElem_mem _
        have h2 := hx _ hm
        intro h3
        have h4 : r.getD j [] < t := by simpa using h3
        exact hxt (tl_trans h2 h4)
theorem ordT_mem {l : List Tx} (hl : ltT l) {t : Tx} (h : t ∈ l) : ordT l t < l.length ∧ l.getD (ordT l t) [] = t := by
  obtain ⟨i, hi, rfl⟩ := List.getElem_of_mem h
  have e : l.getD i [] = l[i] := by simp [List.getD, List.getElem?_eq_getElem hi]
  have h1 : ordT l l[i] ≤ i := by
    apply Nat.le_of_not_lt
    intro hlt
    have := ordT_below l l[i] hlt
    rw [e] at this
    exact tl_irrefl _ this
  have h2 : ¬ ordT l l[i] < i := fun hlt => by
    have hb := ordT_above hl l[i] (Nat.le_refl _) (by omega)
    have h3 := List.pairwise_iff_getElem.1 hl (ordT l l[i]) i (by omega) hi hlt
    apply hb
    rw [List.getD, List.getElem?_eq_getElem (by omega)]
    exact h3
  have h3 : ordT l l[i] = i := by omega
  exact ⟨by omega, by rw [h3, e]⟩
theorem getD_out {l : List Tx} {t : Tx} {j : Nat} (h : l.length ≤ j) : l.getD j t = t := by simp [List.getD, List.getElem?_eq_none h]
theorem getD_any {l : List Tx} {s t : Tx} {j : Nat} (h : j < l.length) : l.getD j t = l.getD j s := by simp [List.getD, List.getElem?_eq_getElem h]
theorem bytes_inj {s t : Tx} : (ByteArray.mk s.toArray = ByteArray.mk t.toArray) ↔ s = t := by
  constructor
  · intro h
    have := congrArg ByteArray.toList h
    rwa [tx_list, tx_list] at this
  · rintro rfl; rfl
/-- a text sought among texts in order. -/
theorem searchT_any (base n c : Nat) (A : Option Addr) (xs : List Tx) (t : Tx) (w : World) (h : Own w base 9 1 (.slice A n c) n (svs xs)) (hb : n < 4611686018427387904) (hx : ltT xs) :
    Calls Try.prog 48 #[.slice A n c, .string ⟨t.toArray⟩] w (fun en w' => en = .returned (.tuple #[.int .i64 (ordT xs t : Nat), .bool (decide (t ∈ xs))]) ∧ ∃ q, w' = w.drewN q) := by
  have hrd := h.rd
  obtain ⟨hl, A', c', hv, hn, hm, hA⟩ := h
  injection hv with h1 h2 h3
  subst h1; subst h3
  rw [svs_len, Nat.mul_one] at hl
  rcases hA with ⟨rfl, rfl⟩ | ⟨g, cur, rfl, hb', hh, hcs, ht⟩
  · have h0 : n = 0 := by omega
    subst h0
    have hx : xs = [] := List.eq_nil_of_length_eq_zero hl
    subst hx
    refine (Any2.slices_BinarySearch_string_empty Try.searchStr none 0 _ w).mono ?_
    rintro en w' ⟨rfl, rfl⟩
    exact ⟨by simp [ordT], 0, rfl⟩
  · have hc := Any2.slices_BinarySearch_string Try.searchStr g 0 n c (fun j => ⟨(xs.getD j t).toArray⟩) ⟨t.toArray⟩ w hb (fun j hj => by
      obtain ⟨ad, e, _, hcell⟩ := hrd j (sv (xs.getD j [])) (svs_get (by omega))
      injection e with e
      subst e
      rw [Addr.add_lit] at hcell
      rw [getD_any (s := []) (by omega)]
      exact hcell)
    have hbs : Lib.bsGo (fun k => Op.bytesLess (ByteArray.mk (xs.getD k t).toArray).toList (ByteArray.mk t.toArray).toList) n 0 n = ordT xs t := by
      refine Lib.bsGo_spec _ (ordT xs t) (fun k hk => ?_) (fun k hk => ?_) n 0 n (by omega) (Nat.zero_le _) (by have := ordT_le xs t; omega)
      · rw [tx_lt]
        refine decide_eq_true ?_
        have hk2 := ordT_le xs t
        rw [getD_any (s := []) (by omega)]
        exact ordT_below xs t hk
      · rw [tx_lt]
        refine decide_eq_false ?_
        by_cases hkn : k < xs.length
        · rw [getD_any (s := []) hkn]
          exact ordT_above hx t hk hkn
        · rw [getD_out (by omega)]
          exact tl_irrefl _
    rw [hbs] at hc
    refine hc.mono ?_
    rintro en w' ⟨rfl, q, rfl⟩
    refine ⟨?_, q, rfl⟩
    have hd : (ordT xs t < n ∧ (fun j => (ByteArray.mk (xs.getD j t).toArray)) (ordT xs t) = ⟨t.toArray⟩) ↔ t ∈ xs := by
      constructor
      · rintro ⟨h1, h2⟩
        have h3 := bytes_inj.1 h2
        rw [← h3, getD_any (s := []) (by omega)]
        exact getD_mem (by omega)
      · intro hm
        obtain ⟨h1, h2⟩ := ordT_mem hx hm
        refine ⟨by omega, bytes_inj.2 ?_⟩
        rw [getD_any (s := []) h1, h2]
    simp only [decide_eq_decide.2 hd]
end Go.Proofs.Ytnjcncidlhllmaa
namespace Go.Proofs.Ytnjcncidlhllmaa
set_option linter.unusedVariables false
set_option linter.unusedSimpArgs false
open Go.RowKit

/-- lists of texts that are read. -/
def TSl (w : World) (B : Nat) (A : Option Addr) (bss : List (List Tx)) : Prop :=
  ∀ j bs, bss[j]? = some bs → ∃ ad Aj cj, A = some ad ∧ ad.block < B ∧ w.cell? (ad.add j) = some (.slice Aj bs.length cj) ∧ bs.length ≤ cj ∧ cj ≤ maxLen ∧ Rd w B Aj (svs bs)
theorem TSl.fr {S : Nat → Prop} {w w' : World} {B : Nat} {A : Option Addr} {bss : List (List Tx)} (h : TSl w B A bss) (f : Fr S w w') (hS : ∀ k, k < B → ¬ S k) : TSl w' B A bss := fun j bs hj => by
  obtain ⟨ad, Aj, cj, e, hb, hc, h1, h2, hr⟩ := h j bs hj
  exact ⟨ad, Aj, cj, e, hb, f.cell hc (by rw [block_of_add]; exact hS _ hb), h1, h2, hr.fr f hS⟩
theorem TSl.fr0 {w w' : World} {B : Nat} {A : Option Addr} {bss : List (List Tx)} (h : TSl w B A bss) (f : Fr No w w') : TSl w' B A bss := h.fr f (fun _ _ h => h)
theorem TSl.more {w : World} {B B' : Nat} {A : Option Addr} {bss : List (List Tx)} (h : TSl w B A bss) (hB : B ≤ B') : TSl w B' A bss := fun j bs hj => by
  obtain ⟨ad, Aj, cj, e, hb, hc, h1, h2, hr⟩ := h j bs hj
  exact ⟨ad, Aj, cj, e, by omega, hc, h1, h2, hr.more hB⟩

theorem TSl.single {w : World} {B n c : Nat} {A : Option Addr} {bs : List Tx} {e : TypeId} (hn : bs.length = n) (h1 : n ≤ c) (h2 : c ≤ maxLen) (hr : Rd w B A (svs bs)) (hB : B ≤ w.heap.size) : TSl (w.alloc (.cells #[.slice A n c] e)) (w.heap.size + 1) (some ⟨w.heap.size, 0, none⟩) [bs] := by
  subst hn
  intro j bs' hj
  cases j with
  | zero =>
    injection hj with hj
    subst hj
    refine ⟨_, A, c, rfl, by simp, ?_, h1, h2, (hr.fr0 ((Fr.refl _ _).alloc _)).more (by omega)⟩
    rw [Addr.add_lit, cell_of_row _ w.heap.size (0 + 0) #[.slice A bs.length c] e (0, 0) (heap_alloc_new w _)]
    rfl
  | succ j => simp at hj


/-- slices of texts that were handed out: each of its own memory. -/
structure ValsT (w : World) (base : Nat) (vals : List Value) (bss : List (List Tx)) : Prop where
  len : vals.length = bss.length
  own : ∀ (j : Nat) (v : Value) (bs : List Tx), vals[j]? = some v → bss[j]? = some bs → Own w base 9 1 v bs.length (svs bs)
  dis : ∀ (i j : Nat) (vi vj : Value), i < j → vals[i]? = some vi → vals[j]? = some vj → ∀ k, vi.ownBlock = some k → vj.ownBlock ≠ some k
section
variable {S : Nat → Prop} {w w' : World} {base : Nat} {vals : List Value} {bss : List (List Tx)}
theorem ValsT.nil (w : World) (base : Nat) : ValsT w base [] [] := ⟨rfl, fun j v bs h => by simp at h, fun i j vi vj _ h => by simp at h⟩
theorem ValsT.get (h : ValsT w base vals bss) {j : Nat} {v : Value} (hv : vals[j]? = some v) : ∃ bs, bss[j]? = some bs ∧ Own w base 9 1 v bs.length (svs bs) := by
  have hj := (List.getElem?_eq_some_iff.1 hv).1
  rw [h.len] at hj
  exact ⟨_, List.getElem?_eq_getElem hj, h.own j v _ hv (List.getElem?_eq_getElem hj)⟩
theorem ValsT.fr (h : ValsT w base vals bss) (f : Fr S w w') (hS : ∀ (j : Nat) v, vals[j]? = some v → ∀ k, v.ownBlock = some k → ¬ S k) : ValsT w' base vals bss :=
  ⟨h.len, fun j v bs hv hb => (h.own j v bs hv hb).fr f (hS j v hv), h.dis⟩
theorem ValsT.fr0 (h : ValsT w base vals bss) (f : Fr No w w') : ValsT w' base vals bss := h.fr f (fun _ _ _ _ _ h => h)
theorem ValsT.above (h : ValsT w base vals bss) (f : Fr S w w') (hS : ∀ k, S k → k < base) : ValsT w' base vals bss := h.fr f (fun j v hv k hk e => by
  obtain ⟨bs, _, ho⟩ := h.get hv
  have := (ho.lt k hk).1
  have := hS k e
  omega)
theorem ValsT.other {b2 e2 s2 n2 : Nat} {v2 : Value} {xs2 : List Value} (h : ValsT w base vals bss) (o : Own w b2 e2 s2 v2 n2 xs2) (hne : 9 ≠ e2) (f : Fr (fun k => v2.ownBlock = some k) w w') : ValsT w' base vals bss := h.fr f (fun j v hv k hk e => by
  obtain ⟨bs, _, ho⟩ := h.get hv
  exact ho.apart o hne k hk e)
theorem ValsT.lower {b2 : Nat} (h : ValsT w base vals bss) (hb : b2 ≤ base) : ValsT w b2 vals bss := ⟨h.len, fun j v bs hv hb' => (h.own j v bs hv hb').lower hb, h.dis⟩
theorem ValsT.snoc {w0 : World} {v : Value} {bs : List Tx} (h0 : ValsT w0 base vals bss) (h : ValsT w base vals bss) (o : Own w w0.heap.size 9 1 v bs.length (svs bs)) (hb : base ≤ w0.heap.size) : ValsT w base (vals ++ [v]) (bss ++ [bs]) := by
  have hl := h.len
  refine ⟨by simp [hl], ?_, ?_⟩
  · intro j v' bs' hv hb'
    by_cases hj : j < vals.length
    · rw [List.getElem?_append_left hj] at hv
      rw [List.getElem?_append_left (by omega)] at hb'
      exact h.own j v' bs' hv hb'
    · have hj1 := (List.getElem?_eq_some_iff.1 hv).1
      have e1 : j = vals.length := by simp at hj1; omega
      subst e1
      rw [List.getElem?_append_right (Nat.le_refl _), Nat.sub_self] at hv
      rw [hl, List.getElem?_append_right (Nat.le_refl _), Nat.sub_self] at hb'
      simp at hv hb'
      subst hv; subst hb'
      exact o.lower hb
  · intro i j vi vj hij hi hj k hk
    have hj1 := (List.getElem?_eq_some_iff.1 hj).1
    by_cases hjl : j < vals.length
    · rw [List.getElem?_append_left (by omega)] at hi
      rw [List.getElem?_append_left hjl] at hj
      exact h.dis i j vi vj hij hi hj k hk
    · have e1 : j = vals.length := by simp at hj1; omega
      subst e1
      rw [List.getElem?_append_left hij] at hi
      rw [List.getElem?_append_right (Nat.le_refl _), Nat.sub_self] at hj
      simp at hj
      subst hj
      intro hk2
      obtain ⟨bs', _, ho⟩ := h0.get hi
      have h1 := (ho.lt k hk).2
      have h2 := (o.lt k hk2).1
      omega
/-- as lists that are read. -/
theorem ValsT.isl (h : ValsT w base vals bss) {A : Option Addr} (hr : Rd w w.heap.size A vals) : TSl w w.heap.size A bss := fun j bs hj => by
  have hj1 := (List.getElem?_eq_some_iff.1 hj).1
  have hv : vals[j]? = some (vals[j]'(by rw [h.len]; exact hj1)) := List.getElem?_eq_getElem _
  obtain ⟨ad, e, hb, hc⟩ := hr j _ hv
  have ho := h.own j _ bs hv hj
  obtain ⟨A', c', hv', h1, h2, _, h3, _⟩ := ho.form
  rw [hv'] at hc
  exact ⟨ad, A', c', e, hb, hc, h1, h2, h3⟩
end
end Go.Proofs.Ytnjcncidlhllmaa
namespace Go.Proofs.Ytnjcncidlhllmaa
set_option linter.unusedVariables false
set_option linter.unusedSimpArgs false
open Go.RowKit

theorem tbeq_dec (a b : Tx) : (a == b) = decide (a = b) := by by_cases h : a = b <;> simp [h]
set_option maxRecDepth 100000 in
set_option maxHeartbeats 800000 in
theorem sameS_any (A B : Option Addr) (n c m d b1 b2 : Nat) (xs ys : List Tx) (w : World) (hx : xs.length = n) (hy : ys.length = m) (hn : n ≤ c) (hc : c ≤ maxLen) (hm : m ≤ d) (hd : d ≤ maxLen) (hr : Rd w b1 A (svs xs)) (hs : Rd w b2 B (svs ys)) :
    Calls Try.prog 26 #[.slice A n c, .slice B m d] w (RetQ (.bool (decide (xs = ys))) w) := by
  unfold maxLen at hc hd
  have HX := hide hx
  have HY := hide hy
  have HR := hide hr
  have HS := hide hs
  clear hx hy hr hs
  by_cases hnm : n = m
  · subst hnm
    have hb : ((n : Int) != n) = false := by simp
    go_enter Try.func26, Try.ntmps26
    go_wp2
    go_loopw [5] (fun i wr => ∃ k nq : Nat, k ≤ n ∧ i = .int .i64 k ∧ wr = w.drewN nq ∧ Hid (xs.take k = ys.take k)) (fun i _ => n - (intOf i).toNat)
    case atStart => exact ⟨0, 0, by omega, rfl, rfl, hide rfl⟩
    case round =>
      obtain ⟨k, nq, hk, rfl, rfl, HT⟩ := hrel
      by_cases hlt : k < n
      · have h1 : k < xs.length := by rw [HX.out]; exact hlt
        have h2 : k < ys.length := by rw [HY.out]; exact hlt
        obtain ⟨ad, X, rfl, _, hcell, _, hX, _⟩ := cellStr HR.out h1
        obtain ⟨bd, Y, rfl, _, hcell2, _, hY, _⟩ := cellStr HS.out h2
        have HE : Hid (xs.getD k [] = ys.getD k [] → xs.take (k + 1) = ys.take (k + 1)) := hide (fun he => by rw [take_getD [] h1, take_getD [] h2, HT.out, he])
        have HN : Hid (xs.getD k [] ≠ ys.getD k [] → xs ≠ ys) := hide (fun h e => h (by rw [e]))
        have hq : (X.toList == Y.toList) = decide (xs.getD k [] = ys.getD k []) := by rw [hX, hY]; exact tbeq_dec _ _
        clear h1 h2 hX hY
        by_cases he : xs.getD k [] = ys.getD k []
        · have HE' := hide (HE.out he)
          rw [decide_eq_true he] at hq
          have hq2 : (X.toList != Y.toList) = false := by simpa [bne] using hq
          clear HE HN he
          go_wp2
          go_quiet (fail)
          go_wp2
          go_round
          case rel => exact ⟨k + 1, _, by omega, by go_num, rfl, HE'⟩
          case measure => simp [intOf]; omega
        · rw [decide_eq_false he] at hq
          have hq2 : (X.toList != Y.toList) = true := by simpa [bne] using hq
          have HF := hide (HN.out he)
          clear HN HE he
          go_wp2
          go_quiet (fail)
          go_wp2
          go_ret
          exact ⟨by rw [decide_eq_false HF.out]; rfl, _, World.drewN_drewN _ _ _⟩
      · have HF := hide (show xs = ys by
          have h := HT.out
          rwa [List.take_of_length_le (by rw [HX.out]; omega), List.take_of_length_le (by rw [HY.out]; omega)] at h)
        go_wp2
        go_ret
        exact ⟨by rw [decide_eq_true HF.out]; rfl, _, rfl⟩
  · have hb : ((n : Int) != m) = true := by simp; omega
    have HF := hide (show xs ≠ ys from fun e => hnm (by rw [← HX.out, ← HY.out, e]))
    go_enter Try.func26, Try.ntmps26
    go_wp2
    go_ret
    exact ⟨by rw [decide_eq_false HF.out]; rfl, 0, rfl⟩

def markT : Tx := [109, 97, 114, 107]
def GivesLentS (w : World) (xs : List Tx) (en : Ending) (w' : World) : Prop :=
  ∃ A c, en = .returned (.slice A xs.length c) ∧ Own w' w.heap.size 9 1 (.slice A (xs.length + 1) c) (xs.length + 1) (svs (xs ++ [markT])) ∧ Fr No w w'
theorem svs_one (xs : List Tx) : ∀ u ∈ svs xs, u.oneCell' = true := by
  intro u hu
  obtain ⟨t, _, rfl⟩ := List.mem_map.1 hu
  rfl

set_option maxRecDepth 100000 in
set_option maxHeartbeats 800000 in
theorem lentS_any (A : Option Addr) (n c B : Nat) (xs : List Tx) (w : World) (hl : xs.length = n) (hb : (n + 1) * 16 ≤ 140737488355328) (hr : Rd w B A (svs xs)) :
    Calls Try.prog 42 #[.slice A n c] w (GivesLentS w xs) := by
  obtain ⟨i0, hi, hz, hsz, hby⟩ := info_parts Try.infoS
  have HS := hide (Src.ofRd (P := Try.prog) (size := 1) w Try.underlying45 A n c (svs xs) (by rw [svs_len, hl]; omega) (by omega) hr (svs_one _))
  have HL := hide hl
  clear hr hl
  have b1 : (0 + n) * 16 ≤ 140737488355328 := by omega
  have b2 : 0 + n ≤ maxLen := by unfold maxLen; omega
  have c1 : (0 + n + 1) * 16 ≤ 140737488355328 := by omega
  have c2 : 0 + n + 1 ≤ maxLen := by unfold maxLen; omega
  have HO0 := hide (Own.nil w w.heap.size 9 1)
  go_enter Try.func42, Try.ntmps42
  go_wp2_with (first
    | (at_builtin; refine wpList_append_gen _ rfl (.tmp 4) (.tmp 5) 45 45 rfl w.heap.size 9 i0 (.string ⟨#[]⟩) 1 16 Try.underlying45 hi hz hsz hby rfl (.slice none 0 0) 0 [] rfl HO0.out _ n (svs xs) rfl HS.out b1 b2 (Nat.le_refl _) ?_; intro v1 w1 hown hfr hat; have HO1 := hide hown; have HF1 : Hid (Fr No w w1) := hide ((Fr.refl No w).own hfr (fun g h => by cases h)); have hz1 := hfr.size; clear hown hfr hat)
    | (at_builtin; refine wpList_append_gen _ rfl (.tmp 7) (.tmp 8) 45 45 rfl w.heap.size 9 i0 (.string ⟨#[]⟩) 1 16 Try.underlying45 hi hz hsz hby rfl v1 (0 + n) _ rfl (HO1.out.fr0 ((Fr.refl No w1).alloc (.cells #[.string ⟨#[109, 97, 114, 107]⟩] 9))) _ 1 [.string ⟨#[109, 97, 114, 107]⟩] rfl (Src.one (P := Try.prog) w1 (e := 9) Try.underlying45 (.string ⟨#[109, 97, 114, 107]⟩) rfl) c1 c2 (by simp; omega) ?_; intro v2 w2 hown hfr hat; obtain ⟨A2, k2, rfl, hc1, hc2, _⟩ := hown.form; unfold maxLen at hc2; have HO2 := hide hown; have HF2 : Hid (Fr No w w2) := hide ((HF1.out.alloc _).own hfr (fun g hg => .inl (HO1.out.lt g hg).1)); clear hown hfr hat))
  go_ret
  refine ⟨A2, k2, ?_, ?_, HF2.out⟩
  · rw [HL.out]; first | rfl | simp
  · have h := HO2.out
    rw [HL.out, svs_snoc]
    simpa [sv, markT] using h

set_option maxRecDepth 100000 in
set_option maxHeartbeats 800000 in
theorem keptS_any (A B : Option Addr) (n c m d b1 b2 : Nat) (xs : List Tx) (w : World) (hx : xs.length = n) (hm : xs.length = m) (hn : n + 1 ≤ c) (hc : c ≤ maxLen) (hmd : m ≤ d) (hd : d ≤ maxLen) (hr : Rd w b1 A (svs (xs ++ [markT]))) (hs : Rd w b2 B (svs xs)) :
    Calls Try.prog 51 #[.slice A n c, .slice B m d] w (RetQ (.bool true) w) := by
  have hr1 : Rd w b1 A (svs xs) := by
    have h := hr.tk xs.length
    rw [svs_snoc, ← svs_len xs, List.take_left] at h
    exact h
  have HK := hide (sameS_any A B n c m d b1 b2 xs xs w hx hm (by omega) hc hmd hd hr1 hs)
  rw [decide_eq_true rfl] at HK
  obtain ⟨ad, X, rfl, _, hcell, _, hX, _⟩ := cellStr hr (k := n) (by simp; omega)
  have e1 : (xs ++ [markT]).getD n [] = markT := by rw [← hx]; simp
  rw [e1] at hX
  have hq : (X.toList == ([109, 97, 114, 107] : List UInt8)) = true := by rw [hX]; rfl
  have hq2 : (X.toList == (ByteArray.mk #[109, 97, 114, 107]).toList) = true := by rw [hX, ByteArray.toList_eq]; rfl
  unfold maxLen at hc
  clear hr hs hr1 hx hm e1 hX
  go_enter Try.func51, Try.ntmps51
  go_wp2_with (go_at_call 26; refine HK.out.mono ?_; rintro en w2 ⟨rfl, nq, rfl⟩)
  go_ret
  exact ⟨by first | rfl | rw [hq2] | simp [hq2], _, rfl⟩

end Go.Proofs.Ytnjcncidlhllmaa
namespace Go.Proofs.Ytnjcncidlhllmaa
set_option linter.unusedVariables false
set_option linter.unusedSimpArgs false
open Go.RowKit

theorem svs_take (l : List Tx) (n : Nat) : svs (l.take n) = (svs l).take n := by simp [svs]
/-- lists of texts that are lent: each with a mark behind it, in its own memory. -/
theorem own_lenT (A : Option Addr) (n m c d : Nat) : (Value.slice A n c).ownBlock = (Value.slice A m d).ownBlock := by cases A <;> rfl
structure LentsT (w : World) (base : Nat) (vals : List Value) (bss : List (List Tx)) : Prop where
  len : vals.length = bss.length
  own : ∀ (j : Nat) (v : Value) (bs : List Tx), vals[j]? = some v → bss[j]? = some bs → ∃ A c, v = .slice A bs.length c ∧ Own w base 9 1 (.slice A (bs.length + 1) c) (bs.length + 1) (svs (bs ++ [markT]))
section
variable {S : Nat → Prop} {w w' : World} {base : Nat} {vals : List Value} {bss : List (List Tx)}
theorem LentsT.nil (w : World) (base : Nat) : LentsT w base [] [] := ⟨rfl, fun j v bs h => by simp at h⟩
theorem LentsT.fr (h : LentsT w base vals bss) (f : Fr S w w') (hS : ∀ (j : Nat) v, vals[j]? = some v → ∀ k, v.ownBlock = some k → ¬ S k) : LentsT w' base vals bss :=
  ⟨h.len, fun j v bs hv hb => by
    obtain ⟨A, c, rfl, ho⟩ := h.own j v bs hv hb
    exact ⟨A, c, rfl, ho.fr f (fun g hg => hS j _ hv g (by rw [own_lenT A bs.length (bs.length + 1) c c]; exact hg))⟩⟩
theorem LentsT.fr0 (h : LentsT w base vals bss) (f : Fr No w w') : LentsT w' base vals bss := h.fr f (fun _ _ _ _ _ h => h)
theorem LentsT.lt (h : LentsT w base vals bss) {j : Nat} {v : Value} (hv : vals[j]? = some v) : ∀ k, v.ownBlock = some k → base ≤ k ∧ k < w.heap.size := by
  intro k hk
  have hj := (List.getElem?_eq_some_iff.1 hv).1
  rw [h.len] at hj
  obtain ⟨A, c, rfl, ho⟩ := h.own j v _ hv (List.getElem?_eq_getElem hj)
  exact ho.lt k (by rw [own_lenT A _ (bss[j].length) c c]; exact hk)
theorem LentsT.other {b2 e2 s2 n2 : Nat} {v2 : Value} {xs2 : List Value} (h : LentsT w base vals bss) (o : Own w b2 e2 s2 v2 n2 xs2) (hne : 9 ≠ e2) (f : Fr (fun k => v2.ownBlock = some k) w w') : LentsT w' base vals bss :=
  ⟨h.len, fun j v bs hv hb => by
    obtain ⟨A, c, rfl, ho⟩ := h.own j v bs hv hb
    exact ⟨A, c, rfl, ho.fr f (fun g hg => ho.apart o hne g hg)⟩⟩
theorem LentsT.snoc {A : Option Addr} {c : Nat} {bs : List Tx} (h : LentsT w base vals bss) (o : Own w base 9 1 (.slice A (bs.length + 1) c) (bs.length + 1) (svs (bs ++ [markT]))) : LentsT w base (vals ++ [.slice A bs.length c]) (bss ++ [bs]) := by
  have hl := h.len
  refine ⟨by simp [hl], ?_⟩
  intro j v' bs' hv hb'
  by_cases hj : j < vals.length
  · rw [List.getElem?_append_left hj] at hv
    rw [List.getElem?_append_left (by omega)] at hb'
    exact h.own j v' bs' hv hb'
  · have hj1 := (List.getElem?_eq_some_iff.1 hv).1
    have e1 : j = vals.length := by simp at hj1; omega
    subst e1
    rw [List.getElem?_append_right (Nat.le_refl _), Nat.sub_self] at hv
    rw [hl, List.getElem?_append_right (Nat.le_refl _), Nat.sub_self] at hb'
    simp at hv hb'
    subst hv; subst hb'
    exact ⟨A, c, rfl, o⟩
theorem LentsT.tsl (h : LentsT w base vals bss) {A : Option Addr} (hr : Rd w w.heap.size A vals) : TSl w w.heap.size A bss := fun j bs hj => by
  have hj1 := (List.getElem?_eq_some_iff.1 hj).1
  have hv : vals[j]? = some (vals[j]'(by rw [h.len]; exact hj1)) := List.getElem?_eq_getElem _
  obtain ⟨ad, e, hb, hc⟩ := hr j _ hv
  obtain ⟨A', c', hv', ho⟩ := h.own j _ bs hv hj
  rw [hv'] at hc
  have hle := ho.le
  refine ⟨ad, A', c', e, hb, hc, by omega, hle.2.2, ?_⟩
  have h3 := ho.rd.tk bs.length
  rw [← svs_take, List.take_left] at h3
  exact h3
end
end Go.Proofs.Ytnjcncidlhllmaa
namespace Go.Proofs.Ytnjcncidlhllmaa
set_option linter.unusedVariables false
set_option linter.unusedSimpArgs false
open Go.RowKit

theorem Try.infoRT : (Try.prog.info? 45).map (fun i => (i.zero, i.size, i.bytes)) = some (some (.slice none 0 0), 1, 24) := by kernel_rfl
theorem src_rowT (w : World) (A : Option Addr) (n c : Nat) : Src Try.prog 1 38 (.slice (some ⟨w.heap.size, 0, none⟩) 1 1) 1 [.slice A n c] (w.alloc (.cells #[.slice A n c] 45)) :=
  Src.one (P := Try.prog) w (e := 45) Try.underlying38 _ rfl
theorem take_map_getDT {rows : RwT} {i : Nat} (h : i < rows.length) : rows.take (i + 1) = rows.take i ++ [rows.getD i []] := by
  rw [List.take_succ_eq_append_getElem h, List.getD, List.getElem?_eq_getElem h]
  rfl
theorem TSl.at {w : World} {B : Nat} {A : Option Addr} {rows : RwT} (h : TSl w B A rows) {i : Nat} (hi : i < rows.length) : ∃ ad Ai ci, A = some ad ∧ ad.block < B ∧ w.cell? (ad.add i) = some (.slice Ai (rows.getD i []).length ci) ∧ (rows.getD i []).length ≤ ci ∧ ci ≤ maxLen ∧ Rd w B Ai (svs (rows.getD i [])) := by
  have e : rows[i]? = some (rows.getD i []) := by rw [List.getD, List.getElem?_eq_getElem hi]; rfl
  obtain ⟨ad, Ai, ci, e, h1, h2, h3, h4, h5⟩ := h i _ e
  exact ⟨ad, Ai, ci, e, h1, h2, h3, h4, h5⟩
theorem Rd.svs_nil {w : World} {B : Nat} {l : List Tx} (h : Rd w B none (svs l)) : l = [] := by
  cases l with
  | nil => rfl
  | cons x t =>
    obtain ⟨ad, e, _⟩ := h 0 (sv x) rfl
    cases e
def GivesT (w : World) (xs : List Tx) (en : Ending) (w' : World) : Prop := ∃ v, en = .returned v ∧ Own w' w.heap.size 9 1 v xs.length (svs xs) ∧ Fr No w w'
/-- rows of texts that were lent: each with its mark. -/
def LentTR (w : World) (B : Nat) (A : Option Addr) (rows : RwT) : Prop :=
  ∀ (j : Nat) l, rows[j]? = some l → ∃ ad Aj cj, A = some ad ∧ ad.block < B ∧ w.cell? (ad.add j) = some (.slice Aj l.length cj) ∧ l.length + 1 ≤ cj ∧ cj ≤ maxLen ∧ Rd w B Aj (svs (l ++ [markT]))
theorem LentTR.fr0 {w w' : World} {B : Nat} {A : Option Addr} {rows : RwT} (h : LentTR w B A rows) (f : Fr No w w') : LentTR w' B A rows := fun j l hj => by
  obtain ⟨ad, Aj, cj, e, h1, h2, h3, h4, h5⟩ := h j l hj
  exact ⟨ad, Aj, cj, e, h1, f.cell h2 (fun h => h), h3, h4, h5.fr0 f⟩
theorem LentTR.tsl {w : World} {B : Nat} {A : Option Addr} {rows : RwT} (h : LentTR w B A rows) : TSl w B A rows := fun j l hj => by
  obtain ⟨ad, Aj, cj, e, h1, h2, h3, h4, h5⟩ := h j l hj
  refine ⟨ad, Aj, cj, e, h1, h2, by omega, h4, ?_⟩
  have h6 := h5.tk l.length
  rw [← svs_take, List.take_left] at h6
  exact h6
theorem LentTR.at {w : World} {B : Nat} {A : Option Addr} {rows : RwT} (h : LentTR w B A rows) {i : Nat} (hi : i < rows.length) : ∃ ad Ai ci, A = some ad ∧ ad.block < B ∧ w.cell? (ad.add i) = some (.slice Ai (rows.getD i []).length ci) ∧ (rows.getD i []).length + 1 ≤ ci ∧ ci ≤ maxLen ∧ Rd w B Ai (svs (rows.getD i [] ++ [markT])) := by
  have e : rows[i]? = some (rows.getD i []) := by rw [List.getD, List.getElem?_eq_getElem hi]; rfl
  obtain ⟨ad, Ai, ci, e, h1, h2, h3, h4, h5⟩ := h i _ e
  exact ⟨ad, Ai, ci, e, h1, h2, h3, h4, h5⟩
theorem LentTR.of {w : World} {base n c : Nat} {A : Option Addr} {vals : List Value} {rows : RwT} (ho : Own w base 45 1 (.slice A n c) n vals) (hl : LentsT w base vals rows) (hn : rows.length = n) : LentTR w w.heap.size A rows := fun j l hj => by
  have hr := ho.rd
  have hvl := hl.len
  have hjl := (List.getElem?_eq_some_iff.1 hj).1
  have hv : vals[j]? = some (vals[j]'(by omega)) := List.getElem?_eq_getElem _
  obtain ⟨ad, e, hb, hc⟩ := hr j _ hv
  obtain ⟨Aj, cj, e2, hoj⟩ := hl.own j _ l hv hj
  rw [e2] at hc
  exact ⟨ad, Aj, cj, e, hb, hc, hoj.le.2.1, hoj.le.2.2, hoj.rd⟩
def GivesLT (n : Nat) (w : World) (rows : RwT) (en : Ending) (w' : World) : Prop := ∃ A c, en = .returned (.slice A n c) ∧ n ≤ c ∧ c ≤ maxLen ∧ LentTR w' w'.heap.size A rows ∧ Fr No w w'
set_option maxRecDepth 100000 in
set_option maxHeartbeats 2000000 in
theorem texts_any (A : Option Addr) (n c B : Nat) (rows : RwT) (w : World) (hl : rows.length = n) (hn : n ≤ c) (hc : c ≤ maxLen) (hb : n * 24 ≤ 140737488355328) (hlb : ∀ l ∈ rows, (l.length + 1) * 16 ≤ 140737488355328) (hB : B ≤ w.heap.size) (hr : TSl w B A rows) :
    Calls Try.prog 16 #[.slice A n c] w (GivesLT n w rows) := by
  have HR := hide hr
  have HL := hide hl
  have HB := hide hlb
  clear hr hl hlb
  unfold maxLen at hc
  obtain ⟨i1, hi1, hz1, hsz1, hby1⟩ := info_parts Try.infoRT
  go_enter Try.func16, Try.ntmps16
  go_wp2
  go_loopw [3, 4, 5] (fun v3 i _ wr => ∃ (k : Nat) (vals : List Value), k ≤ n ∧ i = .int .i64 (k : Nat) ∧ Hid (Fr No w wr) ∧ Hid (Own wr w.heap.size 45 1 v3 k vals) ∧ Hid (LentsT wr w.heap.size vals (rows.take k))) (fun _ i _ _ => n - (intOf i).toNat)
  case atStart => exact ⟨0, [], by omega, by go_num, hide (Fr.refl _ _), hide (Own.nil _ _ _ _), hide (by rw [List.take_zero]; exact LentsT.nil _ _)⟩
  case round =>
    obtain ⟨k, vals, hk, rfl, HF, HO, HV⟩ := hrel
    by_cases hlt : k < n
    · have hk1 : k < rows.length := by rw [HL.out]; exact hlt
      obtain ⟨ad, Ai, ci, rfl, hadb, hcell, hc1, hc2, hrd⟩ := HR.out.at hk1
      have hcell := HF.out.cell hcell (fun h => h)
      have hlb := HB.out (rows.getD k []) (by rw [List.getD, List.getElem?_eq_getElem hk1]; exact List.getElem_mem hk1)
      obtain ⟨li, hli⟩ : ∃ x, x = (rows.getD k []).length := ⟨_, rfl⟩
      rw [← hli] at hcell hc1 hlb
      have HLI := hide hli
      have hws := HF.out.size
      have HCl := hide (lentS_any Ai li ci B (rows.getD k []) wr hli.symm hlb (hrd.fr0 HF.out))
      have hc2' := hc2
      unfold maxLen at hc2'
      have HT := hide (take_map_getDT hk1)
      have b1 : (k + 1) * 24 ≤ 140737488355328 := by omega
      have b2 : k + 1 ≤ maxLen := by unfold maxLen; omega
      clear hrd hk1 hadb hli hlb
      go_wp2_with (first
        | (go_at_call 42; refine HCl.out.mono ?_; rintro e1 w3 ⟨A2, c2, rfl, hown, hfr⟩; rw [← HLI.out] at hown ⊢; have HO3 := hide hown; have hle2 := hown.le; have HF3 := hide hfr; have HF03 : Hid (Fr No w w3) := hide (HF.out.trans HF3.out (fun _ _ h => h.elim)); have HV3 := hide (HV.out.fr0 HF3.out); have HOut := hide ((HO.out.fr0 HF3.out).fr0 ((Fr.refl No w3).alloc (.cells #[.slice A2 li c2] 45))); have hz3 : w.heap.size ≤ (w3.alloc (.cells #[.slice A2 li c2] 45)).heap.size := (by have := HF03.out.size; simp; omega); clear hown hfr)
        | (at_builtin; refine wpList_append_gen _ rfl (.tmp 17) (.tmp 19) 38 38 rfl w.heap.size 45 i1 (.slice none 0 0) 1 24 Try.underlying38 hi1 hz1 hsz1 hby1 rfl u3 k _ rfl HOut.out _ 1 [.slice A2 li c2] rfl (src_rowT w3 A2 li c2) b1 b2 hz3 ?_; intro v5 w5 hown hfr hat; have HO5 := hide hown; have HFa := hide hfr; clear hown hfr hat))
      go_roundw
      case rel =>
        have hV3 := HV3.out.fr0 ((Fr.refl No w3).alloc (.cells #[.slice A2 li c2] 45))
        have hO3 := (HO3.out.lower hws).fr0 ((Fr.refl No w3).alloc (.cells #[.slice A2 li c2] 45))
        refine ⟨k + 1, vals ++ [.slice A2 li c2], by omega, by go_num, hide ((HF03.out.alloc _).own HFa.out (fun g hg => .inl (HOut.out.lt g hg).1)), HO5, hide ?_⟩
        rw [HT.out]
        have h9 := hO3.fr HFa.out (fun i hi e => hO3.apart HOut.out (by decide) i hi e)
        rw [HLI.out] at h9 ⊢
        exact LentsT.snoc (hV3.other HOut.out (by decide) HFa.out) h9
      case measure => simp [intOf]; omega
    · obtain rfl : k = n := by omega
      have htk : rows.take k = rows := List.take_of_length_le (by rw [HL.out]; omega)
      rw [htk] at HV
      obtain ⟨A5, c5, rfl, q1, q2, _⟩ := HO.out.form
      have HQ := hide (And.intro q1 q2)
      unfold maxLen at q2
      clear htk
      go_wp2
      go_ret
      exact ⟨A5, c5, rfl, HQ.out.1, HQ.out.2, LentTR.of HO.out HV.out HL.out, HF.out⟩
set_option maxRecDepth 100000 in
set_option maxHeartbeats 2000000 in
theorem same12_any (A A' : Option Addr) (n c c' B B' : Nat) (rows : RwT) (w : World) (hl : rows.length = n) (hn : n ≤ c) (hc : c ≤ maxLen) (hn' : n ≤ c') (hc' : c' ≤ maxLen) (h : LentTR w B A rows) (hr : TSl w B' A' rows) :
    Calls Try.prog 19 #[.slice A n c, .slice A' n c'] w (RetQ (.bool true) w) := by
  have HH := hide h
  have HR := hide hr
  have HL := hide hl
  unfold maxLen at hc hc'
  clear h hr hl
  go_enter Try.func19, Try.ntmps19
  go_wp2
  go_loopw [5] (fun i wr => ∃ k nq : Nat, k ≤ n ∧ i = .int .i64 (k : Nat) ∧ wr = w.drewN nq) (fun i _ => n - (intOf i).toNat)
  case atStart => exact ⟨0, 0, by omega, by go_num, rfl⟩
  case round =>
    obtain ⟨k, nq, hk, rfl, rfl⟩ := hrel
    by_cases hlt : k < n
    · have hk1 : k < rows.length := by rw [HL.out]; exact hlt
      obtain ⟨ad1, Ai, ci, rfl, hadb, hcell, hc1, hc2, hrd⟩ := HH.out.at hk1
      obtain ⟨ad2, Aj, cj, rfl, hadb2, hcell2, hd1, hd2, hrd2⟩ := HR.out.at hk1
      have HK := hide (fun W (f : Fr No w W) => keptS_any Ai Aj _ ci _ cj B B' (rows.getD k []) W rfl rfl hc1 hc2 hd1 hd2 (hrd.fr0 f) (hrd2.fr0 f))
      have hc2' := hc2
      have hd2' := hd2
      unfold maxLen at hc2' hd2'
      have hcell' : (w.drewN nq).cell? (ad1.add k) = some (.slice Ai (rows.getD k []).length ci) := hcell
      have hcell2' : (w.drewN nq).cell? (ad2.add k) = some (.slice Aj (rows.getD k []).length cj) := hcell2
      obtain ⟨w2, hw2⟩ : ∃ w2, w2 = w.drewN nq := ⟨_, rfl⟩
      rw [← hw2] at hcell' hcell2'
      have HK2 := hide (fun m => HK.out (w2.drewN m) (by rw [hw2]; exact ((Fr.refl No w).drewN nq).drewN m))
      have HW2 := hide hw2
      rw [← hw2]
      clear hrd hrd2 hk1 hadb hadb2 hcell hcell2 hw2 HK
      generalize (rows.getD k []).length = li at *
      go_wp2
      go_quiet ((go_at_call 51; exact Calls.quiet_of (HK2.out _)))
      go_wp2
      go_roundw
      case rel => exact ⟨k + 1, _, by omega, by go_num, (by rw [HW2.out]; exact World.drewN_drewN _ _ _)⟩
      case measure => simp [intOf]; omega
    · obtain rfl : k = n := by omega
      obtain ⟨w2, hw2⟩ : ∃ w2, w2 = w.drewN nq := ⟨_, rfl⟩
      have HW2 := hide hw2
      rw [← hw2]
      clear hw2
      go_wp2
      go_ret
      exact ⟨by simp, nq, HW2.out⟩
end Go.Proofs.Ytnjcncidlhllmaa
namespace Go.Proofs.Ytnjcncidlhllmaa
set_option linter.unusedVariables false
set_option linter.unusedSimpArgs false
open Go.RowKit

theorem svs_app (a b : List Tx) : svs (a ++ b) = svs a ++ svs b := by simp [svs]
theorem Own.st {w : World} {base e n c g : Nat} {xs : List Value} (h : Own w base e 1 (.slice (some ⟨g, 0, none⟩) n c) n xs) {k : Nat} (hk : k < n) :
    w.cell? ⟨g, k, none⟩ = xs[k]? ∧ w.frozen? ⟨g, k, none⟩ = false ∧ ∀ v : Value, Own (w.setCell ⟨g, k, none⟩ v) base e 1 (.slice (some ⟨g, 0, none⟩) n c) n (xs.set k v) := by
  obtain ⟨g', e1, _, _, h1, h2, h3⟩ := h.store hk
  injection e1 with e1
  injection e1 with e1
  subst e1
  exact ⟨h1, h2, h3⟩
theorem ValsI.put {w w' : World} {base i : Nat} {vals : List Value} {bss : List (List Int)} {v v' : Value} {bs' : List Int} (h : ValsI w base vals bss) (hi : vals[i]? = some v) (f : Fr (fun k => v.ownBlock = some k) w w')
    (o' : Own w' base 2 1 v' bs'.length (iz .i64 bs')) (hb : v'.ownBlock = v.ownBlock ∨ v'.ownBlock = some w.heap.size) : ValsI w' base (vals.set i v') (bss.set i bs') := by
  have hil := (List.getElem?_eq_some_iff.1 hi).1
  have hlt : ∀ (j : Nat) vj, vals[j]? = some vj → ∀ k, vj.ownBlock = some k → k < w.heap.size := fun j vj hj k hk => by
    obtain ⟨_, _, ho⟩ := h.get hj
    exact (ho.lt k hk).2
  have hd : ∀ (j : Nat) vj, j ≠ i → vals[j]? = some vj → ∀ k, vj.ownBlock = some k → v.ownBlock ≠ some k := fun j vj hne hj k hk => by
    rcases Nat.lt_or_gt_of_ne hne with h1 | h1
    · exact h.dis j i vj v h1 hj hi k hk
    · intro e
      exact h.dis i j v vj h1 hi hj k e hk
  have hd' : ∀ (j : Nat) vj, j ≠ i → vals[j]? = some vj → ∀ k, vj.ownBlock = some k → v'.ownBlock ≠ some k := fun j vj hne hj k hk => by
    rcases hb with e | e
    · rw [e]; exact hd j vj hne hj k hk
    · rw [e]
      intro e2
      injection e2 with e2
      have := hlt j vj hj k hk
      omega
  refine ⟨by simp [h.len], fun j vj bj hv hbj => ?_, fun a b va vb hab ha hb2 k hk => ?_⟩
  · by_cases e : j = i
    · subst e
      rw [List.getElem?_set_self hil] at hv
      rw [List.getElem?_set_self (by rw [← h.len]; exact hil)] at hbj
      injection hv with hv
      injection hbj with hbj
      subst hv; subst hbj
      exact o'
    · rw [List.getElem?_set_ne (fun h => e h.symm)] at hv hbj
      exact (h.own j vj bj hv hbj).fr f (fun k hk e2 => hd j vj e hv k hk e2)
  · by_cases ea : a = i
    · subst ea
      rw [List.getElem?_set_self hil] at ha
      rw [List.getElem?_set_ne (by omega)] at hb2
      injection ha with ha
      subst ha
      intro e2
      exact hd' b vb (by omega) hb2 k e2 hk
    · rw [List.getElem?_set_ne (fun h => ea h.symm)] at ha
      by_cases eb : b = i
      · subst eb
        rw [List.getElem?_set_self hil] at hb2
        injection hb2 with hb2
        subst hb2
        exact hd' a va ea ha k hk
      · rw [List.getElem?_set_ne (fun h => eb h.symm)] at hb2
        exact h.dis a b va vb hab ha hb2 k hk
theorem ValsT.put {w w' : World} {base i : Nat} {vals : List Value} {bss : List (List Tx)} {v v' : Value} {bs' : List Tx} (h : ValsT w base vals bss) (hi : vals[i]? = some v) (f : Fr (fun k => v.ownBlock = some k) w w')
    (o' : Own w' base 9 1 v' bs'.length (svs bs')) (hb : v'.ownBlock = v.ownBlock ∨ v'.ownBlock = some w.heap.size) : ValsT w' base (vals.set i v') (bss.set i bs') := by
  have hil := (List.getElem?_eq_some_iff.1 hi).1
  have hlt : ∀ (j : Nat) vj, vals[j]? = some vj → ∀ k, vj.ownBlock = some k → k < w.heap.size := fun j vj hj k hk => by
    obtain ⟨_, _, ho⟩ := h.get hj
    exact (ho.lt k hk).2
  have hd : ∀ (j : Nat) vj, j ≠ i → vals[j]? = some vj → ∀ k, vj.ownBlock = some k → v.ownBlock ≠ some k := fun j vj hne hj k hk => by
    rcases Nat.lt_or_gt_of_ne hne with h1 | h1
    · exact h.dis j i vj v h1 hj hi k hk
    · intro e
      exact h.dis i j v vj h1 hi hj k e hk
  have hd' : ∀ (j : Nat) vj, j ≠ i → vals[j]? = some vj → ∀ k, vj.ownBlock = some k → v'.ownBlock ≠ some k := fun j vj hne hj k hk => by
    rcases hb with e | e
    · rw [e]; exact hd j vj hne hj k hk
    · rw [e]
      intro e2
      injection e2 with e2
      have := hlt j vj hj k hk
      omega
  refine ⟨by simp [h.len], fun j vj bj hv hbj => ?_, fun a b va vb hab ha hb2 k hk => ?_⟩
  · by_cases e : j = i
    · subst e
      rw [List.getElem?_set_self hil] at hv
      rw [List.getElem?_set_self (by rw [← h.len]; exact hil)] at hbj
      injection hv with hv
      injection hbj with hbj
      subst hv; subst hbj
      exact o'
    · rw [List.getElem?_set_ne (fun h => e h.symm)] at hv hbj
      exact (h.own j vj bj hv hbj).fr f (fun k hk e2 => hd j vj e hv k hk e2)
  · by_cases ea : a = i
    · subst ea
      rw [List.getElem?_set_self hil] at ha
      rw [List.getElem?_set_ne (by omega)] at hb2
      injection ha with ha
      subst ha
      intro e2
      exact hd' b vb (by omega) hb2 k e2 hk
    · rw [List.getElem?_set_ne (fun h => ea h.symm)] at ha
      by_cases eb : b = i
      · subst eb
        rw [List.getElem?_set_self hil] at hb2
        injection hb2 with hb2
        subst hb2
        exact hd' a va ea ha k hk
      · rw [List.getElem?_set_ne (fun h => eb h.symm)] at hb2
        exact h.dis a b va vb hab ha hb2 k hk
end Go.Proofs.Ytnjcncidlhllmaa
namespace Go.Proofs.Ytnjcncidlhllmaa
set_option linter.unusedVariables false
set_option linter.unusedSimpArgs false
open Go.RowKit

def insT (s : List Tx) (t : Tx) : List Tx := s.take (ordT s t) ++ t :: s.drop (ordT s t)
theorem insT_lt {s : List Tx} {t : Tx} (h : ltT s) (hn : t ∉ s) : ltT (insT s t) := by
  have h1 : ∀ a ∈ s.take (ordT s t), a < t := fun a ha => by
    obtain ⟨i, hi, rfl⟩ := List.getElem_of_mem ha
    rw [List.length_take] at hi
    have h2 := ordT_below s t (j := i) (by omega)
    rw [List.getElem_take]
    rwa [List.getD, List.getElem?_eq_getElem (by omega)] at h2
  have h2 : ∀ b ∈ s.drop (ordT s t), t < b := fun b hb => by
    obtain ⟨i, hi, rfl⟩ := List.getElem_of_mem hb
    rw [List.length_drop] at hi
    have h3 := ordT_above h t (j := ordT s t + i) (by omega) (by omega)
    rw [List.getD, List.getElem?_eq_getElem (by omega)] at h3
    rw [List.getElem_drop]
    rcases tl_total t s[ordT s t + i] with h4 | h4 | h4
    · exact h4
    · exact absurd (h4 ▸ List.getElem_mem _) hn
    · exact absurd h4 h3
  unfold insT ltT
  rw [List.pairwise_append]
  refine ⟨List.Pairwise.sublist (List.take_sublist _ _) h, List.pairwise_cons.2 ⟨h2, List.Pairwise.sublist (List.drop_sublist _ _) h⟩, fun a ha b hb => ?_⟩
  rcases List.mem_cons.1 hb with rfl | hb
  · exact h1 a ha
  · exact tl_trans (h1 a ha) (h2 b hb)
theorem insT_mem (s : List Tx) (t u : Tx) : u ∈ insT s t ↔ u ∈ s ∨ u = t := by
  unfold insT
  conv => rhs; rw [← List.take_append_drop (ordT s t) s]
  simp only [List.mem_append, List.mem_cons]
  constructor
  · rintro (h | h | h)
    · exact .inl (.inl h)
    · exact .inr h
    · exact .inl (.inr h)
  · rintro ((h | h) | h)
    · exact .inl h
    · exact .inr (.inr h)
    · exact .inr (.inl h)
theorem setT_in {l : List Tx} {t : Tx} (h : t ∈ setT l) : setT (l ++ [t]) = setT l := by
  refine setT_of (setT_lt l) (fun u => ?_)
  rw [setT_mem, List.mem_append, List.mem_singleton]
  exact ⟨.inl, fun h2 => h2.elim id (fun e => e ▸ (setT_mem l t).1 h)⟩
theorem setT_new {l : List Tx} {t : Tx} (h : t ∉ setT l) : setT (l ++ [t]) = insT (setT l) t := by
  refine setT_of (insT_lt (setT_lt l) h) (fun u => ?_)
  rw [insT_mem, setT_mem, List.mem_append, List.mem_singleton]
theorem ordT_isIn {s : List Tx} (h : ltT s) (t : Tx) : t ∈ s ↔ ordT s t < s.length ∧ s.getD (ordT s t) [] = t :=
  ⟨fun hm => ordT_mem h hm, fun ⟨h1, h2⟩ => by rw [← h2]; exact getD_mem h1⟩
/-- cells shifted by one, in a row of the call's own. -/
theorem own_shift {w : World} {base e n c g : Nat} {xs : List Value} (h : Own w base e 1 (.slice (some ⟨g, 0, none⟩) n c) n xs) : ∃ cur : List Value, w.heap[g]? = some (.cells cur.toArray e (0, 0)) ∧ n ≤ cur.length ∧ base ≤ g ∧ cur.take n = xs ∧ (∀ (w' : World) (k : Nat) (cs : List Value), w'.heap[g]? = some (.cells (splice cur k cs).toArray e (0, 0)) → k + cs.length = n → Own w' base e 1 (.slice (some ⟨g, 0, none⟩) n c) n (xs.take k ++ cs)) := by
  obtain ⟨hl, A', c', hv, hn, hm, hA⟩ := h
  injection hv with h1 h2 h3
  subst h1; subst h3
  rcases hA with ⟨h1, _⟩ | ⟨g', cur, h1, hb, hh, hcs, ht⟩
  · cases h1
  · injection h1 with h1
    injection h1 with h1
    subst h1
    rw [Nat.mul_one] at ht hcs hl
    refine ⟨cur.toList, by simpa using hh, by simp; omega, hb, ht, fun w' k cs hw hk => ?_⟩
    have hcl : n ≤ cur.toList.length := by simp; omega
    refine ⟨by rw [List.length_append, List.length_take, hl, Nat.mul_one]; omega, _, c, rfl, hn, hm, .inr ⟨g, _, rfl, hb, hw, ?_, ?_⟩⟩
    · simp only [splice, List.size_toArray, List.length_append, List.length_take, List.length_drop, Nat.mul_one]
      rw [Array.length_toList] at hcl ⊢
      omega
    · rw [Nat.mul_one, splice, ← ht, List.take_take, Nat.min_eq_left (by omega)]
      have e1 : (cur.toList.take k ++ cs).length = n := by rw [List.length_append, List.length_take]; omega
      rw [← List.append_assoc, List.take_append_of_le_length (by omega), List.take_of_length_le (by omega)]
theorem svs_drop (l : List Tx) (n : Nat) : svs (l.drop n) = (svs l).drop n := by simp [svs]
theorem wp_fr {P : Program} {c : Code} {K : Exit → Act → World → Prop} {a : Act} {wo W : World} (f : Fr No wo W) (h : ∀ W', Fr No wo W' → Code.wp P c K a W') : Code.wp P c K a W := h W f
theorem sv_of {T : ByteArray} {t : Tx} (h : T.data.toList = t) : (.string T : Value) = sv t := by
  subst h
  simp [sv]
theorem bl_dec {X T : ByteArray} {s t : Tx} (h1 : X.toList = s) (h2 : T.toList = t) : Op.bytesLess X.toList T.toList = decide (s < t) := by rw [h1, h2, bytesLess_eq]
theorem insT_cells {s : List Tx} {t : Tx} {kk o : Nat} {xs : List Value} (hx : xs = svs s ++ [.string ⟨#[]⟩]) (ho : o = s.length) (hk : kk = ordT s t) : (xs.take (kk + 1) ++ svs (s.drop kk)).set kk (sv t) = svs (insT s t) := by
  have hle := ordT_le s t
  have h1 : (xs.take (kk + 1)).length = kk + 1 := by rw [List.length_take, hx, List.length_append, svs_len, List.length_singleton]; omega
  rw [List.set_append_left _ _ (by omega)]
  have h2 : (xs.take (kk + 1)).set kk (sv t) = svs (s.take kk) ++ [sv t] := by
    rw [List.take_succ_eq_append_getElem (by rw [hx, List.length_append, svs_len, List.length_singleton]; omega)]
    have h3 : xs.take kk = svs (s.take kk) := by rw [hx, List.take_append_of_le_length (by rw [svs_len]; omega), svs_take]
    rw [h3, List.set_append_right _ _ (by rw [svs_len, List.length_take]; omega)]
    congr 1
    have h4 : kk - (svs (s.take kk)).length = 0 := by rw [svs_len, List.length_take]; omega
    rw [h4]
    rfl
  rw [h2, insT, ← hk, svs_app, List.append_assoc]
  rfl
set_option maxRecDepth 100000 in
set_option maxHeartbeats 2000000 in
theorem refSet_any (A : Option Addr) (n c B : Nat) (l : List Tx) (w : World) (hl : l.length = n) (hn : n ≤ c) (hc : c ≤ maxLen) (hb : n ≤ 1048576) (hB : B ≤ w.heap.size) (hr : Rd w B A (svs l)) :
    Calls Try.prog 28 #[.slice A n c] w (GivesT w (setT l)) := by
  obtain ⟨i1, hi1, hz1, hsz1, hby1⟩ := info_parts Try.infoS
  have hszS : (Try.prog.info? 9).map (·.size) = some 1 := by kernel_rfl
  have HR := hide hr
  have HL := hide hl
  unfold maxLen at hc
  clear hr hl
  go_enter Try.func28, Try.ntmps28
  go_wp2
  go_loopw [3, 4] (fun vo i wr => ∃ (k o : Nat), k ≤ n ∧ i = .int .i64 (k : Nat) ∧ o ≤ k ∧ Hid (Fr No w wr) ∧ Hid (o = (setT (l.take k)).length) ∧ Hid (Own wr w.heap.size 9 1 vo o (svs (setT (l.take k))))) (fun _ i _ => n - (intOf i).toNat)
  case atStart => exact ⟨0, 0, by omega, by go_num, by omega, hide (Fr.refl _ _), hide (by rw [List.take_zero, setT_nil]; rfl), hide (by rw [List.take_zero, setT_nil]; exact Own.nil _ _ _ _)⟩
  case round =>
    obtain ⟨wo, rfl⟩ : ∃ wo : World, wo = wr := ⟨_, rfl⟩
    obtain ⟨k, o, hk, rfl, hok, HF, HOl, HO⟩ := hrel
    by_cases hlt : k < n
    · have hk1 : k < l.length := by rw [HL.out]; exact hlt
      obtain ⟨ad, T, hA, _, hcell0, hT, hTl, hTs⟩ := cellStr HR.out hk1
      subst hA
      have hcell := HF.out.cell hcell0 (fun h => h)
      have HC0 := hide hcell0
      clear hcell0
      have htk : l.take (k + 1) = l.take k ++ [l.getD k []] := take_getD [] hk1
      obtain ⟨t, ht⟩ : ∃ x, x = l.getD k [] := ⟨_, rfl⟩
      rw [← ht] at hT hTl hTs htk
      have hslt := setT_lt (l.take k)
      have hin := setT_in (l := l.take k) (t := t)
      have hnew := setT_new (l := l.take k) (t := t)
      obtain ⟨s, hs⟩ : ∃ x, x = setT (l.take k) := ⟨_, rfl⟩
      rw [← hs] at HOl HO hslt hin hnew
      rw [← htk] at hin hnew
      have hkk := ordT_le s t
      have hisin := ordT_isIn hslt t
      have hblw := fun j h => ordT_below s t (j := j) h
      have habv := ordT_above hslt t (j := ordT s t) (Nat.le_refl _)
      obtain ⟨kk, hkk'⟩ : ∃ x, x = ordT s t := ⟨_, rfl⟩
      rw [← hkk'] at hkk hisin hblw habv
      rw [← HOl.out] at hkk hisin habv
      have HIn := hide hin
      have HNew := hide hnew
      have HIs := hide hisin
      have HBl := hide hblw
      have HAb := hide habv
      have HKk := hide hkk'
      have HT := hide hT
      have HTl := hide hTl
      obtain ⟨A5, c5, rfl, q1, q2, -⟩ := HO.out.form
      have HQ2 := hide q2
      unfold maxLen at q2
      clear hk1 htk ht hslt hin hnew hs hisin hblw habv hkk' hT hTl hTs
      go_wp2
      go_loopw [5] (fun v wq => ∃ (j nq : Nat), j ≤ kk ∧ v = .int .i64 (j : Nat) ∧ wq = wo.drewN nq) (fun v _ => kk + 1 - (intOf v).toNat)
      case atStart => exact ⟨0, 0, by omega, by go_num, rfl⟩
      case round =>
        obtain ⟨j, nq, hj, rfl, rfl⟩ := hrel
        by_cases hlq : j < kk
        · have hjo : j < o := by omega
          obtain ⟨ad2, X, hA2, _, hc2, _, hXl, _⟩ := cellStr HO.out.rd (k := j) (by rw [← HOl.out]; exact hjo)
          subst hA2
          have hls : Op.bytesLess X.toList T.toList = true := by rw [bl_dec hXl HTl.out]; exact decide_eq_true (HBl.out j hlq)
          have d0 : decide (j < o) = true := decide_eq_true hjo
          clear hXl
          go_wp2
          go_quiet (fail)
          go_wp2
          go_roundw
          case rel => exact ⟨j + 1, _, by omega, by go_num, rfl⟩
          case measure => simp [intOf]; omega
        · obtain rfl : j = kk := by omega
          by_cases hko : j < o
          · obtain ⟨ad2, X, hA2, _, hc2, _, hXl, _⟩ := cellStr HO.out.rd (k := j) (by rw [← HOl.out]; exact hko)
            subst hA2
            have hls : Op.bytesLess X.toList T.toList = false := by rw [bl_dec hXl HTl.out]; exact decide_eq_false (HAb.out hko)
            have d0 : decide (j < o) = true := decide_eq_true hko
            have heq : (X.toList == T.toList) = decide (t ∈ s) := by
              rw [hXl, HTl.out]
              by_cases hm : t ∈ s
              · rw [decide_eq_true hm, (HIs.out.1 hm).2]; simp
              · rw [decide_eq_false hm]
                simp
                intro e
                exact hm (HIs.out.2 ⟨hko, by rw [List.getD_eq_getElem?_getD]; exact e⟩)
            by_cases hm : t ∈ s
            · rw [decide_eq_true hm] at heq
              have HIn' := hide (HIn.out hm)
              clear hm hXl
              go_wp2
              go_quiet (fail)
              go_wp2
              go_quiet (fail)
              go_wp2
              go_roundw
              case rel => exact ⟨k + 1, o, by omega, by go_num, by omega, hide (HF.out.drewN _), hide (by rw [HIn'.out]; exact HOl.out), hide (by rw [HIn'.out]; exact HO.out.fr0 ((Fr.refl No wo).drewN _))⟩
              case measure => simp [intOf]; omega
            · rw [decide_eq_false hm] at heq
              have HNew' := hide (HNew.out hm)
              clear hm hXl
              go_wp2
              go_quiet (fail)
              go_wp2
              go_quiet (fail)
              go_upto_region 9 with (fail)
              refine wp_fr (wo := wo) (((Fr.refl No wo).drewN _).drewN _ |>.drewN _) fun w5 hf5 => ?_
              have HF5 := hide (HF.out.tr hf5)
              have HOa := hide ((HO.out.fr0 hf5).fr0 ((Fr.refl No w5).alloc (.cells #[.string ⟨#[]⟩] 9)))
              have hz5 : w.heap.size ≤ (w5.alloc (.cells #[.string ⟨#[]⟩] 9)).heap.size := (HF5.out.alloc _).size
              have HS := hide (Src.one (P := Try.prog) w5 (e := 9) Try.underlying45 (.string ⟨#[]⟩) rfl)
              have b1 : (o + 1) * 16 ≤ 140737488355328 := by omega
              have b2 : o + 1 ≤ maxLen := by unfold maxLen; omega
              clear hf5
              go_upto_region 10 with (at_builtin; refine wpList_append_gen _ rfl (.tmp 44) (.tmp 45) 45 45 rfl w.heap.size 9 i1 (.string ⟨#[]⟩) 1 16 Try.underlying45 hi1 hz1 hsz1 hby1 rfl (.slice (some ad2) o c5) o _ rfl HOa.out _ 1 [.string ⟨#[]⟩] rfl HS.out b1 b2 hz5 ?_; intro v6 w6 hown hfr hat; obtain ⟨A6, c6, rfl, p1, p2, -⟩ := hown.form; obtain ⟨G, hA6, -⟩ := hown.store (k := 0) (by omega); subst hA6; have HO6 := hide hown; have HF6 : Hid (Fr No w w6) := hide ((HF5.out.alloc _).own hfr (fun g hg => .inl (HOa.out.lt g hg).1)); unfold maxLen at p2; clear hown hfr hat)
              obtain ⟨cur, hcur, hcl, hG, -, hsh⟩ := own_shift HO6.out
              have HSh := hide hsh
              have hsrc : ∀ (q : Nat) v, (svs (s.drop j))[q]? = some v → w6.cell? ((⟨G, j, none⟩ : Addr).add q) = some v := fun q v hv => by
                have hql := (List.getElem?_eq_some_iff.1 hv).1
                rw [svs_len, List.length_drop, ← HOl.out] at hql
                rw [Addr.add_lit, (HO6.out.st (k := j + q) (by omega)).1, List.getElem?_append_left (by rw [svs_len, ← HOl.out]; omega), ← hv, svs_drop, List.getElem?_drop]
              have HSrc := hide hsrc
              have HCur := hide hcur
              have hdl : (svs (s.drop j)).length = o - j := by rw [svs_len, List.length_drop, ← HOl.out]
              have HDl := hide hdl
              have hw1 : IntKind.i64.wrap ((j : Int) + 1) = (j : Int) + 1 := IntWalk.i64_in _ (by omega)
              have hb1 : (0 : Int) ≤ (j : Int) + 1 := by omega
              have htn : ((j : Int) + 1).toNat = j + 1 := by omega
              have hb3 : (j : Int) ≤ (o : Int) + 1 := by omega
              have hb5 : j ≤ o + 1 := by omega
              have hb6 : (j : Int) + 1 ≤ (o : Int) + 1 := by omega
              have hb2 : ¬ (c6 = j + 1) := by omega
              have hb4 : ¬ (c6 = j) := by omega
              go_wp2_with (fail)
              clear hsh hsrc hcur hdl
              go_region_law (refine step_copy_splice rfl (.tmp 50) (.tmp 53) 45 45 rfl 9 Try.underlying45 hszS (some ⟨G, j + 1, none⟩) (some ⟨G, j, none⟩) (o - j) (c6 - (j + 1)) (o + 1 - j) (c6 - j) (by simp [Act.eval, Act.put]) (by simp [Act.eval, Act.put]) G (j + 1) cur 9 HCur.out (svs (s.drop j)) (by rw [HDl.out]; simp only [Nat.min_def]; split <;> omega) (fun _ => ⟨rfl, _, rfl, HSrc.out⟩) (by rw [HDl.out]; omega) (svs_one _) w.heap.size w (HF6.out.drew.below) hG ?_; intro w7 hg7 hb7; have HG7 := hide hg7; have HF7 := hide (Fr.of_below hb7); clear hg7 hb7)
              have hw7 := HSh.out w7 (j + 1) (svs (s.drop j)) HG7.out (by rw [HDl.out]; omega)
              obtain ⟨-, fS, hst⟩ := hw7.st (k := j) (by omega)
              have hj1 : j < (svs s ++ [Value.string ⟨#[]⟩]).length := by rw [List.length_append, svs_len, ← HOl.out, List.length_singleton]; omega
              have cS : w7.cell? ⟨G, j, none⟩ = some ((svs s ++ [Value.string ⟨#[]⟩])[j]) := by
                rw [(hw7.st (k := j) (by omega)).1, List.getElem?_append_left (by rw [List.length_take]; omega), List.getElem?_take, if_pos (by omega), List.getElem?_eq_getElem hj1]
              have cT : w7.cell? (ad.add k) = some (.string T) := HF7.out.cell HC0.out (fun h => h)
              generalize (svs s ++ [Value.string ⟨#[]⟩])[j] = old at cS
              have hst2 := hst (.string T)
              rw [sv_of HT.out, insT_cells rfl HOl.out HKk.out] at hst2
              rw [← sv_of HT.out] at hst2
              have HSt := hide hst2
              have HN2 : Hid (setT (l.take (k + 1)) = insT s t) := HNew'
              have HIl : Hid ((insT s t).length = o + 1) := hide (by rw [insT, List.length_append, List.length_cons, List.length_take, List.length_drop, HOl.out]; have := ordT_le s t; omega)
              clear hw7 hst hst2 hj1 hcell hw1 hb1 htn hb3 hb5 hb6 hb2 hb4 hcl
              go_wp2
              go_roundw
              case rel => exact ⟨k + 1, o + 1, by omega, by go_num, by omega, hide (HF7.out.setCell (fun h => by have h : G < w.heap.size := h; omega) _), hide (by rw [HN2.out, HIl.out]), hide (by rw [HN2.out]; exact HSt.out)⟩
              case measure => simp [intOf]; omega
          · have hjo : j = o := by omega
            subst hjo
            have d0 : decide (j < j) = false := decide_eq_false hko
            have hm : t ∉ s := fun h => absurd (HIs.out.1 h).1 hko
            have HNew' := hide (HNew.out hm)
            have hd0 : s.drop j = [] := List.drop_eq_nil_of_le (by rw [← HOl.out]; exact Nat.le_refl _)
            clear hm
            go_wp2
            go_quiet (fail)
            go_wp2
            go_quiet (fail)
            go_upto_region 9 with (fail)
            refine wp_fr (wo := wo) (((Fr.refl No wo).drewN _).drewN _ |>.drewN _) fun w5 hf5 => ?_
            have HF5 := hide (HF.out.tr hf5)
            have HOa := hide ((HO.out.fr0 hf5).fr0 ((Fr.refl No w5).alloc (.cells #[.string ⟨#[]⟩] 9)))
            have hz5 : w.heap.size ≤ (w5.alloc (.cells #[.string ⟨#[]⟩] 9)).heap.size := (HF5.out.alloc _).size
            have HS := hide (Src.one (P := Try.prog) w5 (e := 9) Try.underlying45 (.string ⟨#[]⟩) rfl)
            have b1 : (j + 1) * 16 ≤ 140737488355328 := by omega
            have b2 : j + 1 ≤ maxLen := by unfold maxLen; omega
            clear hf5
            go_upto_region 10 with (at_builtin; refine wpList_append_gen _ rfl (.tmp 44) (.tmp 45) 45 45 rfl w.heap.size 9 i1 (.string ⟨#[]⟩) 1 16 Try.underlying45 hi1 hz1 hsz1 hby1 rfl (.slice A5 j c5) j _ rfl HOa.out _ 1 [.string ⟨#[]⟩] rfl HS.out b1 b2 hz5 ?_; intro v6 w6 hown hfr hat; obtain ⟨A6, c6, rfl, p1, p2, -⟩ := hown.form; obtain ⟨G, hA6, -⟩ := hown.store (k := 0) (by omega); subst hA6; have HO6 := hide hown; have HF6 : Hid (Fr No w w6) := hide ((HF5.out.alloc _).own hfr (fun g hg => .inl (HOa.out.lt g hg).1)); unfold maxLen at p2; clear hown hfr hat)
            obtain ⟨cur, hcur, hcl, hG, -, hsh⟩ := own_shift HO6.out
            have HSh := hide hsh
            have hsrc : ∀ (q : Nat) v, (svs (s.drop j))[q]? = some v → w6.cell? ((⟨G, j, none⟩ : Addr).add q) = some v := fun q v hv => by
              have hql := (List.getElem?_eq_some_iff.1 hv).1
              rw [svs_len, List.length_drop, ← HOl.out] at hql
              rw [Addr.add_lit, (HO6.out.st (k := j + q) (by omega)).1, List.getElem?_append_left (by rw [svs_len, ← HOl.out]; omega), ← hv, svs_drop, List.getElem?_drop]
            have HSrc := hide hsrc
            have HCur := hide hcur
            have hdl : (svs (s.drop j)).length = j - j := by rw [svs_len, List.length_drop, ← HOl.out]
            have HDl := hide hdl
            have hw1 : IntKind.i64.wrap ((j : Int) + 1) = (j : Int) + 1 := IntWalk.i64_in _ (by omega)
            have hb1 : (0 : Int) ≤ (j : Int) + 1 := by omega
            have htn : ((j : Int) + 1).toNat = j + 1 := by omega
            have hb3 : (j : Int) ≤ (j : Int) + 1 := by omega
            have hb5 : j ≤ j + 1 := by omega
            have hb6 : (j : Int) + 1 ≤ (j : Int) + 1 := by omega
            by_cases hb2 : c6 = j + 1
            · subst hb2
              go_wp2_with (fail)
              clear hsh hsrc hcur hdl
              go_region_law (refine step_copy_splice rfl (.tmp 50) (.tmp 53) 45 45 rfl 9 Try.underlying45 hszS (some ⟨G, 0, none⟩) (some ⟨G, j, none⟩) 0 0 1 1 (by simp [Act.eval, Act.put]) (by simp [Act.eval, Act.put]) G (j + 1) cur 9 HCur.out (svs (s.drop j)) (by rw [HDl.out]; simp) (fun h => absurd h (by rw [HDl.out]; omega)) (by rw [HDl.out]; omega) (svs_one _) w.heap.size w (HF6.out.drew.below) hG ?_; intro w7 hg7 hb7; have HG7 := hide hg7; have HF7 := hide (Fr.of_below hb7); clear hg7 hb7)
              have hw7 := HSh.out w7 (j + 1) (svs (s.drop j)) HG7.out (by rw [HDl.out]; omega)
              obtain ⟨-, fS, hst⟩ := hw7.st (k := j) (by omega)
              have hj1 : j < (svs s ++ [Value.string ⟨#[]⟩]).length := by rw [List.length_append, svs_len, ← HOl.out, List.length_singleton]; omega
              have cS : w7.cell? ⟨G, j, none⟩ = some ((svs s ++ [Value.string ⟨#[]⟩])[j]) := by
                rw [(hw7.st (k := j) (by omega)).1, List.getElem?_append_left (by rw [List.length_take]; omega), List.getElem?_take, if_pos (by omega), List.getElem?_eq_getElem hj1]
              have cT : w7.cell? (ad.add k) = some (.string T) := HF7.out.cell HC0.out (fun h => h)
              generalize (svs s ++ [Value.string ⟨#[]⟩])[j] = old at cS
              have hst2 := hst (.string T)
              rw [sv_of HT.out, insT_cells rfl HOl.out HKk.out] at hst2
              rw [← sv_of HT.out] at hst2
              have HSt := hide hst2
              have HN2 : Hid (setT (l.take (k + 1)) = insT s t) := HNew'
              have HIl : Hid ((insT s t).length = j + 1) := hide (by rw [insT, List.length_append, List.length_cons, List.length_take, List.length_drop, HOl.out]; have := ordT_le s t; omega)
              clear hw7 hst hst2 hj1 hcell hw1 hb1 htn hb3 hb5 hb6 hcl
              go_wp2
              go_roundw
              case rel => exact ⟨k + 1, j + 1, by omega, by go_num, by omega, hide (HF7.out.setCell (fun h => by have h : G < w.heap.size := h; omega) _), hide (by rw [HN2.out, HIl.out]), hide (by rw [HN2.out]; exact HSt.out)⟩
              case measure => simp [intOf]; omega
            · have hx := trivial
              have hb4 : ¬ (c6 = j) := by omega
              go_wp2_with (fail)
              clear hsh hsrc hcur hdl
              go_region_law (refine step_copy_splice rfl (.tmp 50) (.tmp 53) 45 45 rfl 9 Try.underlying45 hszS (some ⟨G, j + 1, none⟩) (some ⟨G, j, none⟩) 0 (c6 - (j + 1)) 1 (c6 - j) (by simp [Act.eval, Act.put]) (by simp [Act.eval, Act.put]) G (j + 1) cur 9 HCur.out (svs (s.drop j)) (by rw [HDl.out]; simp) (fun h => absurd h (by rw [HDl.out]; omega)) (by rw [HDl.out]; omega) (svs_one _) w.heap.size w (HF6.out.drew.below) hG ?_; intro w7 hg7 hb7; have HG7 := hide hg7; have HF7 := hide (Fr.of_below hb7); clear hg7 hb7)
              have hw7 := HSh.out w7 (j + 1) (svs (s.drop j)) HG7.out (by rw [HDl.out]; omega)
              obtain ⟨-, fS, hst⟩ := hw7.st (k := j) (by omega)
              have hj1 : j < (svs s ++ [Value.string ⟨#[]⟩]).length := by rw [List.length_append, svs_len, ← HOl.out, List.length_singleton]; omega
              have cS : w7.cell? ⟨G, j, none⟩ = some ((svs s ++ [Value.string ⟨#[]⟩])[j]) := by
                rw [(hw7.st (k := j) (by omega)).1, List.getElem?_append_left (by rw [List.length_take]; omega), List.getElem?_take, if_pos (by omega), List.getElem?_eq_getElem hj1]
              have cT : w7.cell? (ad.add k) = some (.string T) := HF7.out.cell HC0.out (fun h => h)
              generalize (svs s ++ [Value.string ⟨#[]⟩])[j] = old at cS
              have hst2 := hst (.string T)
              rw [sv_of HT.out, insT_cells rfl HOl.out HKk.out] at hst2
              rw [← sv_of HT.out] at hst2
              have HSt := hide hst2
              have HN2 : Hid (setT (l.take (k + 1)) = insT s t) := HNew'
              have HIl : Hid ((insT s t).length = j + 1) := hide (by rw [insT, List.length_append, List.length_cons, List.length_take, List.length_drop, HOl.out]; have := ordT_le s t; omega)
              clear hw7 hst hst2 hj1 hcell hw1 hb1 htn hb3 hb5 hb6 hb2 hb4 hcl
              go_wp2
              go_roundw
              case rel => exact ⟨k + 1, j + 1, by omega, by go_num, by omega, hide (HF7.out.setCell (fun h => by have h : G < w.heap.size := h; omega) _), hide (by rw [HN2.out, HIl.out]), hide (by rw [HN2.out]; exact HSt.out)⟩
              case measure => simp [intOf]; omega
    · obtain rfl : k = n := by omega
      have htk : l.take k = l := List.take_of_length_le (by rw [HL.out]; omega)
      rw [htk] at HOl HO
      obtain ⟨A4, c4, rfl, q1, q2, -⟩ := HO.out.form
      unfold maxLen at q2
      clear htk
      go_wp2
      go_ret
      exact ⟨_, rfl, by rw [← HOl.out]; exact HO.out, HF.out⟩
end Go.Proofs.Ytnjcncidlhllmaa
namespace Go.Proofs.Ytnjcncidlhllmaa
set_option linter.unusedVariables false
set_option linter.unusedSimpArgs false
open Go.RowKit

def txt (t : Tx) : List UInt8 := enc t.length ++ t
def txts (l : List Tx) : List UInt8 := (l.map txt).flatten
theorem txts_snoc (l : List Tx) (t : Tx) : txts (l ++ [t]) = txts l ++ txt t := by simp [txts]
/-- all texts of rows; the numbers of a row's texts. -/
def termsV (rows : RwT) : List Tx := setT rows.flatten
def ordsV (ts l : List Tx) : List Int := (setT l).map (fun t => ((ordT ts t : Nat) : Int))
def ordsR (rows : RwT) : Rw := rows.map (ordsV (termsV rows))
def okT (rows : RwT) : Prop := okR rows ∧ ∀ l ∈ rows, ∀ t ∈ l, t.length ≤ 256
instance okR_dec (rows : RwT) : Decidable (okR rows) := inferInstanceAs (Decidable (_ ∧ _))
instance okT_dec (rows : RwT) : Decidable (okT rows) := inferInstanceAs (Decidable (_ ∧ _))
def textsB (rows : RwT) : List UInt8 := enc (termsV rows).length ++ txts (termsV rows) ++ formV (ordsR rows)
def keptT (rows : RwT) : List UInt8 := if okT rows then textsB rows else []
theorem termsV_lt (rows : RwT) : ltT (termsV rows) := setT_lt _
theorem termsV_mem (rows : RwT) (t : Tx) : t ∈ termsV rows ↔ ∃ l ∈ rows, t ∈ l := by
  rw [termsV, setT_mem, List.mem_flatten]
theorem flat_le : ∀ r : RwT, (∀ l ∈ r, l.length ≤ 64) → r.flatten.length ≤ 64 * r.length
  | [], _ => by simp
  | x :: t, h => by
    have h1 := flat_le t (fun l hl => h l (List.mem_cons_of_mem _ hl))
    have h2 := h x List.mem_cons_self
    rw [List.flatten_cons, List.length_append, List.length_cons]
    omega
theorem termsV_le {rows : RwT} (h : okR rows) : (termsV rows).length ≤ 1048576 := by
  have h1 := setT_le rows.flatten
  have h2 := flat_le rows h.2
  have h3 := h.1
  unfold termsV
  omega
/-- texts of which each row has each once. -/
theorem termsV_sets (rows : RwT) : setT (rows.map setT).flatten = termsV rows := by
  refine setT_of (termsV_lt rows) (fun t => ?_)
  rw [termsV_mem, List.mem_flatten]
  constructor
  · rintro ⟨l, hl, ht⟩
    exact ⟨setT l, List.mem_map.2 ⟨l, hl, rfl⟩, (setT_mem l t).2 ht⟩
  · rintro ⟨m, hm, ht⟩
    obtain ⟨l, hl, rfl⟩ := List.mem_map.1 hm
    exact ⟨l, hl, (setT_mem l t).1 ht⟩
theorem ordsV_len (ts l : List Tx) : (ordsV ts l).length = (setT l).length := by simp [ordsV]
theorem ordsR_len (rows : RwT) : (ordsR rows).length = rows.length := by simp [ordsR]
theorem ordsR_ok {rows : RwT} (h : okR rows) : okV (ordsR rows) := ⟨by rw [ordsR_len]; exact h.1, fun l hl => by
  obtain ⟨m, hm, rfl⟩ := List.mem_map.1 hl
  rw [ordsV_len]
  exact Nat.le_trans (setT_le m) (h.2 m hm)⟩
theorem ordsV_in {ts l : List Tx} (h : ts.length ≤ 1048576) : InI (ordsV ts l) := fun x hx => by
  obtain ⟨t, _, rfl⟩ := List.mem_map.1 hx
  have := ordT_le ts t
  omega
theorem ordsR_in {rows : RwT} (h : okR rows) : ∀ l ∈ ordsR rows, InI l := fun l hl => by
  obtain ⟨m, hm, rfl⟩ := List.mem_map.1 hl
  exact ordsV_in (termsV_le h)
theorem enc_le (n : Nat) : (enc n).length ≤ 10 := (enc_len n).2
theorem txts_le : ∀ l : List Tx, (∀ t ∈ l, t.length ≤ 256) → (txts l).length ≤ 266 * l.length
  | [], _ => by simp [txts]
  | x :: r, h => by
    have h1 := txts_le r (fun t ht => h t (List.mem_cons_of_mem _ ht))
    have h2 := h x List.mem_cons_self
    have h3 := enc_le x.length
    have e : txts (x :: r) = txt x ++ txts r := by simp [txts]
    rw [e, List.length_append, List.length_cons, txt, List.length_append]
    omega
theorem take_getDR {rows : RwT} {k : Nat} (h : k < rows.length) : rows.take (k + 1) = rows.take k ++ [rows.getD k []] := take_getD [] h
theorem getD_memR {rows : RwT} {k : Nat} (h : k < rows.length) : rows.getD k [] ∈ rows := by
  rw [List.getD, List.getElem?_eq_getElem h]
  exact List.getElem_mem _
/-- between: the first k rows are sets, the others sorted alone. -/
def mixR (rows : RwT) (k : Nat) : RwT := (rows.take k).map setT ++ (rows.drop k).map sortT
theorem mixR_zero (rows : RwT) : mixR rows 0 = sortR rows := by simp [mixR, sortR]
theorem mixR_all {rows : RwT} {k : Nat} (h : rows.length ≤ k) : mixR rows k = rows.map setT := by
  simp [mixR, List.take_of_length_le h, List.drop_eq_nil_of_le h]
theorem mixR_len (rows : RwT) (k : Nat) (h : k ≤ rows.length) : (mixR rows k).length = rows.length := by
  simp [mixR]; omega
theorem mixR_at {rows : RwT} {k : Nat} (h : k < rows.length) : (mixR rows k)[k]? = some (sortT (rows.getD k [])) := by
  unfold mixR
  rw [List.getElem?_append_right (by simp; omega)]
  simp [List.getD, List.getElem?_eq_getElem h, Nat.min_eq_left (Nat.le_of_lt h)]
theorem mixR_set {rows : RwT} {k : Nat} (h : k < rows.length) : (mixR rows k).set k (setT (rows.getD k [])) = mixR rows (k + 1) := by
  have hd : rows.drop k = rows.getD k [] :: rows.drop (k + 1) := by
    rw [List.drop_eq_getElem_cons h, List.getD, List.getElem?_eq_getElem h]
    rfl
  unfold mixR
  rw [List.set_append_right _ _ (by simp; omega), hd, take_getDR h]
  simp [Nat.min_eq_left (Nat.le_of_lt h)]
/-- between: the numbers of the first k rows. -/
def mixO (rows : RwT) (ts : List Tx) (k : Nat) : Rw := (rows.take k).map (ordsV ts) ++ List.replicate (rows.length - k) []
theorem mixO_zero (rows : RwT) (ts : List Tx) : mixO rows ts 0 = List.replicate rows.length [] := by simp [mixO]
theorem mixO_all {rows : RwT} {ts : List Tx} {k : Nat} (h : rows.length ≤ k) : mixO rows ts k = rows.map (ordsV ts) := by
  simp [mixO, List.take_of_length_le h, show rows.length - k = 0 by omega]
theorem mixO_len (rows : RwT) (ts : List Tx) {k : Nat} (h : k ≤ rows.length) : (mixO rows ts k).length = rows.length := by
  simp [mixO]; omega
theorem mixO_at {rows : RwT} {ts : List Tx} {k : Nat} (h : k < rows.length) : (mixO rows ts k)[k]? = some [] := by
  unfold mixO
  rw [List.getElem?_append_right (by simp; omega), List.getElem?_replicate, if_pos (by simp; omega)]
theorem mixO_set {rows : RwT} {ts : List Tx} {k : Nat} (h : k < rows.length) : (mixO rows ts k).set k (ordsV ts (rows.getD k [])) = mixO rows ts (k + 1) := by
  unfold mixO
  obtain ⟨m, hm⟩ : ∃ m, rows.length - k = m + 1 := ⟨rows.length - k - 1, by omega⟩
  rw [List.set_append_right _ _ (by simp; omega), hm, take_getDR h, show rows.length - (k + 1) = m by omega]
  simp [Nat.min_eq_left (Nat.le_of_lt h), List.replicate_succ]
end Go.Proofs.Ytnjcncidlhllmaa
namespace Go.Proofs.Ytnjcncidlhllmaa
set_option linter.unusedVariables false
set_option linter.unusedSimpArgs false
open Go.RowKit Go.Maps

theorem Try.keyS : Keyed Try.prog 9 := string_keyed Try.underlying9
theorem Try.zeroI (w : World) : (zeroValue 3).run Try.prog w = .ok (.int .i64 0) w := by kernel_rfl
/-- a map in memory that holds 1 at the texts of a row. -/
def SeenM (w : World) (B cnt : Nat) (L : List Tx) : Prop := ∃ D : DataW Unit, w.ownsMap Try.prog 9 (plainElem Try.prog 3) B cnt D ∧ ∀ t : Tx, D.atKey (.string t) (.lit (.int .i64 0)) = .lit (.int .i64 (if t ∈ L then 1 else 0))
theorem ownsMap_fr {S : Nat → Prop} {w w' : World} {B cnt : Nat} {D : DataW Unit} (h : w.ownsMap Try.prog 9 (plainElem Try.prog 3) B cnt D) (f : Fr S w w') (hS : ¬ S B) : w'.ownsMap Try.prog 9 (plainElem Try.prog 3) B cnt D := by
  obtain ⟨es, clock, hb, F, hs, hD⟩ := h
  exact ⟨es, clock, f.blk hb hS, F, hs, hD⟩
theorem SeenM.fr {S : Nat → Prop} {w w' : World} {B cnt : Nat} {L : List Tx} (h : SeenM w B cnt L) (f : Fr S w w') (hS : ¬ S B) : SeenM w' B cnt L := by
  obtain ⟨D, h1, h2⟩ := h
  exact ⟨D, ownsMap_fr h1 f hS, h2⟩
theorem SeenM.lt {w : World} {B cnt : Nat} {L : List Tx} (h : SeenM w B cnt L) : B < w.heap.size := by
  obtain ⟨D, h1, h2⟩ := h
  exact h1.lt
theorem seen_put {w : World} {B cnt : Nat} {L L' : List Tx} {t : Tx} {D : DataW Unit} (hD : Maps.IsMap D) (hat : ∀ t : Tx, D.atKey (.string t) (.lit (.int .i64 0)) = .lit (.int .i64 (if t ∈ L then 1 else 0)))
    (h : w.ownsMap Try.prog 9 (plainElem Try.prog 3) B cnt (D.put (.string t) (.lit (.int .i64 1)))) (hL : ∀ u, u ∈ L' ↔ u ∈ L ∨ u = t) : SeenM w B cnt L' := by
  refine ⟨_, h, fun u => ?_⟩
  by_cases e : u = t
  · subst e
    rw [Maps.atKey_put_same hD (show WideAt.IsKeyLit (.string u) from trivial), if_pos ((hL u).2 (.inr rfl))]
  · rw [Maps.atKey_put_other (fun h => e (by injection h)), hat u]
    by_cases hu : u ∈ L
    · rw [if_pos hu, if_pos ((hL u).2 (.inl hu))]
    · rw [if_neg hu, if_neg (fun h => (hL u).1 h |>.elim hu e)]
set_option maxRecDepth 100000 in
set_option maxHeartbeats 4000000 in
theorem refTerms_any (A : Option Addr) (n c B : Nat) (rows : RwT) (w : World) (hl : rows.length = n) (hok : okT rows) (hn : n ≤ c) (hc : c ≤ maxLen) (hB : B ≤ w.heap.size) (hr : TSl w B A rows) :
    Calls Try.prog 21 #[.slice A n c] w (GivesT w (termsV rows)) := by
  obtain ⟨i1, hi1, hz1, hsz1, hby1⟩ := info_parts Try.infoS
  have HR := hide hr
  have HL := hide hl
  have HOk := hide hok
  have hnb : n ≤ 16384 := by rw [← hl]; exact hok.1.1
  unfold maxLen at hc
  clear hr hl hok
  have hmm := @run_makeMap Try.prog
  go_enter Try.func21, Try.ntmps21
  go_wp2
  clear hmm
  obtain ⟨M, hM⟩ : ∃ x, x = w.heap.size := ⟨_, rfl⟩
  obtain ⟨w1, hw1⟩ : ∃ x, x = w.alloc (.map #[] 0) := ⟨_, rfl⟩
  have hs1 : SeenM w1 M 0 [] := by
    rw [hw1, hM]
    exact ⟨.map [], World.ownsMap_made _ _ _ _, fun t => by simp [DataW.atKey]⟩
  have hf1 : Fr No w w1 := by rw [hw1]; exact (Fr.refl No w).alloc _
  rw [← hw1, ← hM]
  have HS1 := hide hs1
  have HF1 := hide hf1
  have HM := hide hM
  clear hw1 hs1 hf1 hM
  go_loopw [4, 5] (fun va i wr => ∃ (k m cnt : Nat) (L : List Tx), k ≤ n ∧ i = .int .i64 (k : Nat) ∧ m ≤ 64 * k ∧ cnt ≤ 64 * k ∧ Hid (Fr No w wr) ∧ Hid (SeenM wr M cnt L) ∧ Hid (m = L.length) ∧ Hid (∀ t, t ∈ L ↔ t ∈ (rows.take k).flatten) ∧ Hid (Own wr (M + 1) 9 1 va m (svs L))) (fun _ i _ => n - (intOf i).toNat)
  case atStart => exact ⟨0, 0, 0, [], by omega, by go_num, by omega, by omega, HF1, HS1, hide rfl, hide (by simp), hide (Own.nil _ _ _ _)⟩
  case round =>
    clear HS1 HF1
    obtain ⟨wo, rfl⟩ : ∃ wo : World, wo = wr := ⟨_, rfl⟩
    obtain ⟨k, m, cnt, L, hk, rfl, hm, hcnt, HF, HS, HMl, HMem, HO⟩ := hrel
    by_cases hlt : k < n
    · have hk1 : k < rows.length := by rw [HL.out]; exact hlt
      obtain ⟨ad, Ai, ci, hA, hadb, hcell, hc1, hc2, hrd⟩ := HR.out.at hk1
      subst hA
      have hli64 := HOk.out.1.2 _ (getD_memR hk1)
      have hx256 := HOk.out.2 _ (getD_memR hk1)
      have htk : rows.take (k + 1) = rows.take k ++ [rows.getD k []] := take_getDR hk1
      obtain ⟨row, hrow⟩ : ∃ x, x = rows.getD k [] := ⟨_, rfl⟩
      rw [← hrow] at hcell hc1 hrd hli64 hx256 htk
      obtain ⟨li, hli⟩ : ∃ x, x = row.length := ⟨_, rfl⟩
      rw [← hli] at hcell hc1 hli64
      have HC0 := hide hcell
      have HLi := hide hli
      have HRd := hide hrd
      have HX := hide hx256
      have HTk := hide htk
      unfold maxLen at hc2
      clear hk1 hadb hcell hrow hli hrd hx256 htk
      go_wp2
      go_loopw [4, 6] (fun va i wr => ∃ (q m' cnt' : Nat) (L' : List Tx), q ≤ li ∧ i = .int .i64 (q : Nat) ∧ m' ≤ 64 * k + q ∧ cnt' ≤ 64 * k + q ∧ Hid (Fr No w wr) ∧ Hid (SeenM wr M cnt' L') ∧ Hid (m' = L'.length) ∧ Hid (∀ t, t ∈ L' ↔ t ∈ (rows.take k).flatten ∨ t ∈ row.take q) ∧ Hid (Own wr (M + 1) 9 1 va m' (svs L'))) (fun _ i _ => li - (intOf i).toNat)
      case atStart => exact ⟨0, m, cnt, L, by omega, by go_num, by omega, by omega, HF, HS, HMl, hide (by simpa using HMem.out), HO⟩
      case round =>
        clear HF HS HMl HMem HO
        obtain ⟨wp, rfl⟩ : ∃ wo : World, wo = wr := ⟨_, rfl⟩
        obtain ⟨q, m', cnt', L', hq, rfl, hm', hcnt', HF, HS, HMl, HMem, HO⟩ := hrel
        have hcell := HF.out.cell HC0.out (fun h => h)
        by_cases hlq : q < li
        · have hq1 : q < row.length := by rw [← HLi.out]; exact hlq
          obtain ⟨adi, T, hAi, _, hcT0, hT, hTl, hTs⟩ := cellStr HRd.out hq1
          subst hAi
          have htq : row.take (q + 1) = row.take q ++ [row.getD q []] := take_getD [] hq1
          have hx := HX.out _ (getD_mem hq1)
          obtain ⟨t, ht⟩ : ∃ x, x = row.getD q [] := ⟨_, rfl⟩
          rw [← ht] at hT hTl hTs htq hx
          have HCT := hide hcT0
          have hcT := HF.out.cell hcT0 (fun h => h)
          have hkey : keyOf Try.prog 9 (.string T) = some (.string t) := by
            rw [WideMaps.keyOf_string_mk Try.underlying9 (by unfold maxLen; omega), hT]
          have HKey := hide hkey
          have HT := hide hT
          have HTq := hide htq
          obtain ⟨D, hD, hat⟩ := HS.out
          have HD := hide hD
          have HAt := hide hat
          have hsz := HF.out.size
          have hMlt := HS.out.lt
          clear hq1 ht hT hTl hTs htq hx hcT0 hkey hD hat
          by_cases hmem : t ∈ L'
          · have HMem' : Hid (∀ u, u ∈ L' ↔ u ∈ (rows.take k).flatten ∨ u ∈ row.take (q + 1)) := hide (fun u => by
              rw [HTq.out, HMem.out, List.mem_append, List.mem_singleton]
              constructor
              · rintro (h | h)
                · exact .inl h
                · exact .inr (.inl h)
              · rintro (h | h | h)
                · exact .inl h
                · exact .inr h
                · rw [h]; exact (HMem.out t).1 hmem)
            have HIn : Hid (∀ u, u ∈ L' ↔ u ∈ L' ∨ u = t) := hide (fun u => ⟨.inl, fun h => h.elim id (fun e => e ▸ hmem)⟩)
            have HA1 : Hid (D.atKey (.string t) (.lit (.int .i64 0)) = .lit (.int .i64 1)) := hide (by rw [HAt.out, if_pos hmem])
            clear hmem
            go_wp2_with (first
              | (at_lookup; refine wpList_lookup_own_int _ rfl _ _ 85 rfl 9 3 .i64 Try.keyS Try.underlying85 Try.underlying3 (Try.zeroI _) M cnt' D rfl HD.out (.string T) _ rfl HKey.out ?_; intro z hat hwc; obtain rfl : z = 1 := (by rw [HA1.out] at hat; injection hat with hat; injection hat with _ hat; exact hat.symm); clear hat hwc)
              | (at_mapUpdate; refine wpList_mapUpdate_own _ rfl _ _ _ 85 rfl 9 3 Try.keyS Try.underlying85 _ M cnt' D rfl HD.out (by unfold maxLen; omega) (.string T) _ _ rfl rfl HKey.out _ [] (plainElem_int Try.underlying3 (by decide)) ?_; intro w8 hown8 hgrow8; have HO8 := hide hown8; have HF8 := hide (Fr.of_grown hgrow8); clear hown8 hgrow8))
            go_roundw
            case rel => exact ⟨q + 1, m', cnt' + 1, L', by omega, by go_num, by omega, by omega, hide (HF.out.trans HF8.out (fun i hi e => by injection e with e; have := HM.out; omega)), hide (seen_put HD.out.isMap HAt.out HO8.out HIn.out), HMl, HMem', hide (HO.out.fr HF8.out (fun i hi e => by injection e with e; have := (HO.out.lt i hi).1; omega))⟩
            case measure => simp [intOf]; omega
          · have HMem' : Hid (∀ u, u ∈ L' ++ [t] ↔ u ∈ (rows.take k).flatten ∨ u ∈ row.take (q + 1)) := hide (fun u => by
              rw [HTq.out, List.mem_append, HMem.out, List.mem_append, List.mem_singleton, or_assoc])
            have HIn : Hid (∀ u, u ∈ L' ++ [t] ↔ u ∈ L' ∨ u = t) := hide (fun u => by rw [List.mem_append, List.mem_singleton])
            have HA1 : Hid (D.atKey (.string t) (.lit (.int .i64 0)) = .lit (.int .i64 0)) := hide (by rw [HAt.out, if_neg hmem])
            have HOa := hide (HO.out.fr0 ((Fr.refl No wp).alloc (.cells #[.string T] 9)))
            have HSrc := hide (Src.one (P := Try.prog) wp (e := 9) Try.underlying45 (.string T) rfl)
            have b1 : (m' + 1) * 16 ≤ 140737488355328 := by omega
            have b2 : m' + 1 ≤ maxLen := by unfold maxLen; omega
            have b3 : M + 1 ≤ (wp.alloc (.cells #[.string T] 9)).heap.size := by simp; omega
            clear hmem
            go_wp2_with (first
              | (at_lookup; refine wpList_lookup_own_int _ rfl _ _ 85 rfl 9 3 .i64 Try.keyS Try.underlying85 Try.underlying3 (Try.zeroI _) M cnt' D rfl HD.out (.string T) _ rfl HKey.out ?_; intro z hat hwc; obtain rfl : z = 0 := (by rw [HA1.out] at hat; injection hat with hat; injection hat with _ hat; exact hat.symm); clear hat hwc)
              | (at_builtin; refine wpList_append_gen _ rfl (.tmp 33) (.tmp 41) 45 45 rfl (M + 1) 9 i1 (.string ⟨#[]⟩) 1 16 Try.underlying45 hi1 hz1 hsz1 hby1 rfl u4 m' _ rfl HOa.out _ 1 [.string T] rfl HSrc.out b1 b2 b3 ?_; intro v7 w7 hown hfr hat7; have HO7 := hide hown; have HD7 := hide (ownsMap_fr (ownsMap_fr HD.out ((Fr.refl No wp).alloc (.cells #[.string T] 9)) (fun h => h)) hfr (fun e => by have := (HOa.out.lt M e).1; omega)); have HF7 : Hid (Fr No w w7) := hide ((HF.out.alloc _).own hfr (fun g hg => .inl (by have := (HOa.out.lt g hg).1; have := HM.out; omega))); have hcell7 := HF7.out.cell HC0.out (fun h => h); have hcT7 := HF7.out.cell HCT.out (fun h => h); clear hown hfr hat7 b1 b2 b3)
              | (at_mapUpdate; refine wpList_mapUpdate_own _ rfl _ _ _ 85 rfl 9 3 Try.keyS Try.underlying85 _ M cnt' D rfl HD7.out (by unfold maxLen; omega) (.string T) _ _ rfl rfl HKey.out _ [] (plainElem_int Try.underlying3 (by decide)) ?_; intro w8 hown8 hgrow8; have HO8 := hide hown8; have HF8 := hide (Fr.of_grown hgrow8); clear hown8 hgrow8))
            go_roundw
            case rel => exact ⟨q + 1, m' + 1, cnt' + 1, L' ++ [t], by omega, by go_num, by omega, by omega, hide (HF7.out.trans HF8.out (fun i hi e => by injection e with e; have := HM.out; omega)), hide (seen_put HD.out.isMap HAt.out HO8.out HIn.out), hide (by rw [List.length_append, ← HMl.out]; rfl), HMem', hide (by
              have h := HO7.out.fr HF8.out (fun i hi e => by injection e with e; have := (HO7.out.lt i hi).1; omega)
              rw [svs_snoc, ← sv_of HT.out]
              exact h)⟩
            case measure => simp [intOf]; omega
        · obtain rfl : q = li := by omega
          have hall : row.take q = row := List.take_of_length_le (by rw [HLi.out]; exact Nat.le_refl _)
          rw [hall] at HMem
          have HMem' : Hid (∀ t, t ∈ L' ↔ t ∈ (rows.take (k + 1)).flatten) := hide (fun t => by rw [HMem.out, HTk.out]; simp)
          clear hall HMem
          go_wp2
          go_roundw
          case rel => exact ⟨k + 1, m', cnt', L', by omega, by go_num, by omega, by omega, HF, HS, HMl, HMem', HO⟩
          case measure => simp [intOf]; omega
    · obtain rfl : k = n := by omega
      have htk : rows.take k = rows := List.take_of_length_le (by rw [HL.out]; omega)
      rw [htk] at HMem
      obtain ⟨A4, c4, rfl, q1, q2, _, q3, _⟩ := HO.out.form
      have HSt := hide (refSet_any A4 m c4 wo.heap.size L wo HMl.out.symm q1 q2 (by omega) (Nat.le_refl _) q3)
      have hset : setT L = termsV rows := setT_of (termsV_lt rows) (fun t => by rw [termsV, setT_mem, HMem.out])
      rw [hset] at HSt
      unfold maxLen at q2
      clear htk hset q3
      go_wp2_with (go_at_call 28; refine HSt.out.mono ?_; rintro e2 w2 ⟨v2, rfl, hown, hfr⟩; have HO2 := hide hown; have HF2 := hide hfr; clear hown hfr)
      go_ret
      exact ⟨v2, rfl, HO2.out.lower HF.out.size, HF.out.tr HF2.out⟩
end Go.Proofs.Ytnjcncidlhllmaa
