/- Several texts in one: SetP, SortT, CompT, TexP, TSl, KitS, LentT, VaTe. -/
import Derived.Test.YtnjcncidlhllmaaGreatK12
import Derived.Lib.SlicesCompact
import Derived.Shelf.Lay
import Derived.Shelf.SlGeneric
import Derived.Shelf.SortM.Plain
import Derived.Shelf.SortM.SortNone
import Derived.Ground.SlgmProg
import Derived.Sort.OwnSorted
import Derived.Ground.NamesProg
import Derived.Ground.Names2Prog
import Derived.Shelf.Slices.CompactS
import Derived.Shelf.Spec.SearchS
import Derived.Lib.RowBridge
namespace Go.Proofs.YtnjcncidlhllmaaGreat
set_option linter.unusedVariables false
set_option linter.unusedSimpArgs false
open Go.RowKit

abbrev RwT := List (List Tx)
def sortT (l : List Tx) : List Tx := l.mergeSort (fun x y => decide (x ≤ y))
def leT (l : List Tx) : Prop := l.Pairwise (· ≤ ·)
def ltT (l : List Tx) : Prop := l.Pairwise (· < ·)
theorem tx_le_trans {a b c : Tx} (h1 : a ≤ b) (h2 : b ≤ c) : a ≤ c := List.le_trans h1 h2
theorem tx_le_total (a b : Tx) : a ≤ b ∨ b ≤ a := List.le_total a b
theorem sortT_le (l : List Tx) : leT (sortT l) := by
  have h := List.pairwise_mergeSort (le := fun x y : Tx => decide (x ≤ y)) (fun a b c h1 h2 => by simp only [decide_eq_true_eq] at *; exact tx_le_trans h1 h2) (fun a b => by simp only [Bool.or_eq_true, decide_eq_true_eq]; exact tx_le_total a b) l
  exact h.imp (fun h => of_decide_eq_true h)
theorem sortT_perm (l : List Tx) : (sortT l).Perm l := List.mergeSort_perm l _
theorem sortT_len (l : List Tx) : (sortT l).length = l.length := List.length_mergeSort l
theorem sortT_nil : sortT [] = [] := by simp [sortT]
/-- texts in order, each once. -/
def setT (l : List Tx) : List Tx := Lib.compact (sortT l)
theorem tx_lt_of_le_ne {a b : Tx} (h : a ≤ b) (hne : a ≠ b) : a < b := by
  rcases tl_total a b with h1 | h1 | h1
  · exact h1
  · exact absurd h1 hne
  · exact absurd h1 (List.not_lt.2 h)
theorem compact_step (l : List Tx) (h : leT l) : ∀ m, m ≤ l.length → ltT (Lib.compactUpTo l.toArray m) ∧ (∀ t, t ∈ Lib.compactUpTo l.toArray m ↔ t ∈ l.take m) ∧ (∀ t ∈ Lib.compactUpTo l.toArray m, ∀ k, m - 1 = k → t ≤ l.getD k [])
  | 0, _ => by simp [Lib.compactUpTo, ltT]
  | m + 1, hm => by
    obtain ⟨h1, h2, h3⟩ := compact_step l h m (by omega)
    have hlt : m < l.length := hm
    have hget : l.toArray[m]! = l.getD m [] := by simp [List.getD, List.getElem?_eq_getElem hlt, getElem!_pos, hlt]
    have hle : ∀ t ∈ l.take m, t ≤ l.getD m [] := fun t ht => by
      obtain ⟨i, hi, rfl⟩ := List.getElem_of_mem ht
      rw [List.length_take] at hi
      rw [List.getElem_take, List.getD, List.getElem?_eq_getElem hlt]
      exact List.pairwise_iff_getElem.1 h i m (by omega) hlt (by omega)
    rw [Lib.compactUpTo_succ, hget, take_getD [] hlt]
    by_cases hk : Lib.keeps l.toArray m = true
    · rw [if_pos hk]
      have hlast : ∀ t ∈ Lib.compactUpTo l.toArray m, t < l.getD m [] := fun t ht => by
        have hm0 : 0 < m := by
          rcases Nat.eq_zero_or_pos m with e | e
          · subst e; simp [Lib.compactUpTo] at ht
          · exact e
        have hlt1 : m - 1 < l.length := by omega
        have hp : l.toArray[m - 1]! = l.getD (m - 1) [] := by simp [List.getD, List.getElem?_eq_getElem hlt1, getElem!_pos, hlt1]
        have hne : l.getD (m - 1) [] ≠ l.getD m [] := by
          unfold Lib.keeps at hk
          have := of_decide_eq_true hk
          rcases this with h | h
          · omega
          · rw [hget, hp] at h; exact fun e => h e.symm
        have hle1 := h3 t ht (m - 1) rfl
        have hle2 : l.getD (m - 1) [] ≤ l.getD m [] := hle _ (by
          rw [List.getD, List.getElem?_eq_getElem hlt1]
          exact List.mem_take_iff_getElem.2 ⟨m - 1, by omega, rfl⟩)
        have := tx_lt_of_le_ne hle2 hne
        exact List.lt_of_le_of_lt hle1 this
      refine ⟨?_, fun t => ?_, fun t ht k hk => ?_⟩
      · unfold ltT
        rw [List.pairwise_append]
        exact ⟨h1, by simp, fun a ha b hb => by rw [List.mem_singleton.1 hb]; exact hlast a ha⟩
      · rw [List.mem_append, List.mem_append, h2]
      · have e : k = m := by omega
        subst e
        rcases List.mem_append.1 ht with ht | ht
        · exact hle t ((h2 t).1 ht)
        · rw [List.mem_singleton.1 ht]; exact List.le_refl _
    · have hk' : Lib.keeps l.toArray m = false := by simpa using hk
      rw [hk', if_neg (by decide), List.append_nil]
      have hm0 : 0 < m := by
        rcases Nat.eq_zero_or_pos m with e | e
        · subst e; simp [Lib.keeps] at hk'
        · exact e
      have hlt1 : m - 1 < l.length := by omega
      have hp : l.toArray[m - 1]! = l.getD (m - 1) [] := by simp [List.getD, List.getElem?_eq_getElem hlt1, getElem!_pos, hlt1]
      have heq : l.getD m [] = l.getD (m - 1) [] := by
        unfold Lib.keeps at hk'
        have := of_decide_eq_false hk'
        rw [hget, hp] at this
        exact Classical.byContradiction fun e => this (.inr e)
      have hmem : l.getD m [] ∈ l.take m := by
        rw [heq, List.getD, List.getElem?_eq_getElem hlt1]
        exact List.mem_take_iff_getElem.2 ⟨m - 1, by omega, rfl⟩
      refine ⟨h1, fun t => ?_, fun t ht k hk => ?_⟩
      · rw [h2, List.mem_append, List.mem_singleton]
        exact ⟨.inl, fun h => h.elim id (fun e => e ▸ hmem)⟩
      · have e : k = m := by omega
        subst e
        exact hle t ((h2 t).1 ht)
theorem compact_set {l : List Tx} (h : leT l) : ltT (Lib.compact l) ∧ ∀ t, t ∈ Lib.compact l ↔ t ∈ l := by
  obtain ⟨h1, h2, _⟩ := compact_step l h l.length (Nat.le_refl _)
  rw [List.take_length] at h2
  exact ⟨h1, h2⟩
theorem setT_lt (l : List Tx) : ltT (setT l) := (compact_set (sortT_le l)).1
theorem setT_mem (l : List Tx) (t : Tx) : t ∈ setT l ↔ t ∈ l := by
  rw [setT, (compact_set (sortT_le l)).2]
  exact (sortT_perm l).mem_iff
theorem ltT_nodup {l : List Tx} (h : ltT l) : l.Nodup := h.imp (fun h e => by rw [e] at h; exact tl_irrefl _ h)
/-- strictly ascending rows of the same texts are the same. -/
theorem ltT_ext {l m : List Tx} (h1 : ltT l) (h2 : ltT m) (h : ∀ t, t ∈ l ↔ t ∈ m) : l = m :=
  ((List.perm_ext_iff_of_nodup (ltT_nodup h1) (ltT_nodup h2)).2 h).eq_of_pairwise (fun a b _ _ h1 h2 => absurd (tl_trans h1 h2) (tl_irrefl _)) h1 h2
theorem setT_of {l m : List Tx} (h1 : ltT m) (h : ∀ t, t ∈ m ↔ t ∈ l) : setT l = m := ltT_ext (setT_lt l) h1 (fun t => by rw [setT_mem, h])
theorem setT_of_lt {l : List Tx} (h : ltT l) : setT l = l := setT_of h (fun _ => Iff.rfl)
theorem setT_le (l : List Tx) : (setT l).length ≤ l.length := by
  have h : (setT l).length ≤ (sortT l).length := by
    unfold setT Lib.compact Lib.compactUpTo
    rw [List.length_map]
    exact Nat.le_trans (List.length_filter_le _ _) (by simp)
  rwa [sortT_len] at h
theorem setT_nil : setT [] = [] := setT_of_lt (by simp [ltT])
/-- rows that may be kept. -/
def okR (rows : RwT) : Prop := rows.length ≤ 16384 ∧ ∀ l ∈ rows, l.length ≤ 64
def sortR (rows : RwT) : RwT := rows.map sortT
end Go.Proofs.YtnjcncidlhllmaaGreat
namespace Go.Proofs.YtnjcncidlhllmaaGreat
open Go.Shelf Go.RowKit Go.Lib Go.Sort
shelf_lay_g SlLaysM.n6 Slgm 6 at Tryz 43 as Tryz.sortStr
/-- a slice of the call's own, sorted. -/
theorem sortT_any (base n c : Nat) (A : Option Addr) (xs : List Tx) (w : World) (h : Own w base 9 1 (.slice A n c) n (svs xs)) (hb : n ≤ 4611686018427387903) :
    Calls Tryz.prog 43 #[.slice A n c] w (fun en w' => en = .returned (.tuple #[]) ∧ Own w' base 9 1 (.slice A n c) n (svs (sortT xs)) ∧ Fr (fun k => (Value.slice A n c).ownBlock = some k) w w') := by
  obtain ⟨hl, A', c', hv, hn, hm, hA⟩ := h
  injection hv with h1 h2 h3
  subst h1; subst h3
  rw [svs_len, Nat.mul_one] at hl
  rcases hA with ⟨rfl, rfl⟩ | ⟨g, cur, rfl, hb', hh, hcs, ht⟩
  · have h0 : n = 0 := by omega
    subst h0
    have hx : xs = [] := List.eq_nil_of_length_eq_zero hl
    subst hx
    refine (AnyM.slices_Sort_string_none Tryz.sortStr none 0 w).mono ?_
    rintro en w' ⟨rfl, rfl⟩
    refine ⟨rfl, ?_, Fr.refl _ _⟩
    rw [sortT_nil]
    exact Own.nil _ _ _ _
  · have hH : Holds (encStr) w g 0 xs.toArray := holds_of_block hh (by rw [hl]; rw [Nat.mul_one] at ht; exact ht)
    have hc := AnyM.slices_Sort_string Tryz.sortStr g 0 c xs w hH (Array.getElem?_eq_some_iff.1 hh).1 (by omega)
    rw [hl] at hc
    refine hc.mono ?_
    rintro en w' ⟨rfl, nn, os, rfl⟩
    have hsl : (xs.mergeSort fun x y => decide (x ≤ y)).length = xs.length := List.length_mergeSort xs
    have hsz : (xs.mergeSort fun x y => decide (x ≤ y)).length ≤ cur.size := by rw [hsl]; omega
    obtain ⟨g1, g2, g3, g4, g5⟩ := grownBy_sorted (w := w) (g := g) (n := nn) (os := os) (xs.mergeSort fun x y => decide (x ≤ y)).toArray
    refine ⟨rfl, ⟨by rw [svs_len, sortT_len, hl]; omega, _, c, rfl, hn, hm, .inr ⟨g, _, rfl, hb', heap_sorted _ hh, by simpa [putCells] using hcs, ?_⟩⟩, ⟨g1, g2, g3, g4, fun k hk hne => g5 k hk (fun e => hne e.symm)⟩⟩
    have := take_putCells cur (xs.mergeSort fun x y => decide (x ≤ y)) hsz
    rw [hsl, hl] at this
    rw [Nat.mul_one]
    exact this
end Go.Proofs.YtnjcncidlhllmaaGreat
namespace Go.Proofs.YtnjcncidlhllmaaGreat
open Go.Shelf Go.RowKit Go.Lib Go.Sort
shelf_lay Lays.n194 Nm 194 at Tryz as Tryz.compactStr
shelf_lay Lays2.n26 Nm2 26 at Tryz as Tryz.searchStr
theorem heap_putT {w : World} {g n : Nat} {cur : Array Value} {e : TypeId} {fr : Nat × Nat} (d : Array Tx) (hb : w.heap[g]? = some (.cells cur e fr)) :
    (putRow encStr (Sort.ahead w n) g 0 d).heap[g]? = some (.cells (putCells encStr 0 d cur) e fr) := by
  simp [putRow, mapBlock, Sort.ahead, Array.getElem?_modify, hb, onCells]
theorem fr_putT {w : World} {g n : Nat} (d : Array Tx) : Fr (fun k => g = k) w (putRow encStr (Sort.ahead w n) g 0 d) := by
  refine ⟨rfl, rfl, rfl, by simp [putRow, mapBlock, Sort.ahead], fun k hk hne => ?_⟩
  simp [putRow, mapBlock, Sort.ahead, Array.getElem?_modify, hne]
/-- a slice of the call's own, each text once. -/
theorem compactT_any (base n c : Nat) (A : Option Addr) (xs : List Tx) (w : World) (h : Own w base 9 1 (.slice A n c) n (svs xs)) (hb : n ≤ 4611686018427387903) :
    Calls Tryz.prog 42 #[.slice A n c] w (fun en w' => en = .returned (.slice A (compact xs).length c) ∧ Own w' base 9 1 (.slice A (compact xs).length c) (compact xs).length (svs (compact xs)) ∧ Fr (fun k => (Value.slice A n c).ownBlock = some k) w w') := by
  obtain ⟨hl, A', c', hv, hn, hm, hA⟩ := h
  injection hv with h1 h2 h3
  subst h1; subst h3
  rw [svs_len, Nat.mul_one] at hl
  have hle := compact_length_le xs
  rcases hA with ⟨rfl, rfl⟩ | ⟨g, cur, rfl, hb', hh, hcs, ht⟩
  · have h0 : n = 0 := by omega
    subst h0
    have hx : xs = [] := List.eq_nil_of_length_eq_zero hl
    subst hx
    refine (Any.slices_Compact_string_empty Tryz.compactStr none 0 w).mono ?_
    rintro en w' ⟨rfl, rfl⟩
    exact ⟨rfl, Own.nil _ _ _ _, Fr.refl _ _⟩
  · have hH : Holds (encStr) w g 0 xs.toArray := holds_of_block hh (by rw [hl]; rw [Nat.mul_one] at ht; exact ht)
    have hc := Any.slices_Compact_string Tryz.compactStr g 0 c xs w hH (by omega) (by omega)
    rw [hl] at hc
    refine hc.mono ?_
    rintro en w' ⟨rfl, q, rfl⟩
    refine ⟨rfl, ⟨by rw [svs_len, Nat.mul_one], _, c, rfl, by omega, hm, .inr ⟨g, _, rfl, hb', heap_putT _ hh, by simpa [putCells] using hcs, ?_⟩⟩, (fr_putT _).mono ?_⟩
    · have h1 := take_putCells cur (compact xs ++ List.replicate (n - (compact xs).length) []) (by simp; omega)
      have h2 := congrArg (List.take (compact xs).length) h1
      rw [List.take_take, ← List.map_take, List.take_left, Nat.min_eq_left (by simp)] at h2
      rw [Nat.mul_one]
      exact h2
    · intro k _ hk
      rw [← hk]
      rfl
/-- a text's number among texts in order. -/
def ordT (l : List Tx) (t : Tx) : Nat := (l.takeWhile (fun s => decide (s < t))).length
theorem ordT_le (l : List Tx) (t : Tx) : ordT l t ≤ l.length := by
  have h := congrArg List.length (List.takeWhile_append_dropWhile (p := fun s => decide (s < t)) (l := l))
  rw [List.length_append] at h
  unfold ordT
  omega
theorem ordT_below (l : List Tx) (t : Tx) {j : Nat} (h : j < ordT l t) : l.getD j [] < t := by
  induction l generalizing j with
  | nil => simp [ordT] at h
  | cons x r ih =>
    unfold ordT at h
    rw [List.takeWhile_cons] at h
    split at h
    · rename_i hx
      cases j with
      | zero => simpa using hx
      | succ j =>
        rw [List.length_cons] at h
        have := ih (j := j) (by unfold ordT; omega)
        simpa using this
    · simp at h
theorem ordT_above {l : List Tx} (hl : ltT l) (t : Tx) {j : Nat} (h : ordT l t ≤ j) (hj : j < l.length) : ¬ l.getD j [] < t := by
  induction l generalizing j with
  | nil => simp at hj
  | cons x r ih =>
    have hr : ltT r := (List.pairwise_cons.1 hl).2
    have hx := (List.pairwise_cons.1 hl).1
    unfold ordT at h
    rw [List.takeWhile_cons] at h
    split at h
    · rename_i hxt
      cases j with
      | zero => simp at h
      | succ j =>
        rw [List.length_cons] at h hj
        have := ih hr (j := j) (by unfold ordT; omega) (by omega)
        simpa using this
    · rename_i hxt
      have hxt : ¬ x < t := by simpa using hxt
      cases j with
      | zero => simpa using hxt
      | succ j =>
        rw [List.length_cons] at hj
        have hm : r.getD j [] ∈ r := by
          rw [List.getD, List.getElem?_eq_getElem (by omega)]
          exact List.getElem_mem _
        have h2 := hx _ hm
        intro h3
        have h4 : r.getD j [] < t := by simpa using h3
        exact hxt (tl_trans h2 h4)
theorem ordT_mem {l : List Tx} (hl : ltT l) {t : Tx} (h : t ∈ l) : ordT l t < l.length ∧ l.getD (ordT l t) [] = t := by
  obtain ⟨i, hi, rfl⟩ := List.getElem_of_mem h
  have e : l.getD i [] = l[i] := by simp [List.getD, List.getElem?_eq_getElem hi]
  have h1 : ordT l l[i] ≤ i := by
    apply Nat.le_of_not_lt
    intro hlt
    have := ordT_below l l[i] hlt
    rw [e] at this
    exact tl_irrefl _ this
  have h2 : ¬ ordT l l[i] < i := fun hlt => by
    have hb := ordT_above hl l[i] (Nat.le_refl _) (by omega)
    have h3 := List.pairwise_iff_getElem.1 hl (ordT l l[i]) i (by omega) hi hlt
    apply hb
    rw [List.getD, List.getElem?_eq_getElem (by omega)]
    exact h3
  have h3 : ordT l l[i] = i := by omega
  exact ⟨by omega, by rw [h3, e]⟩
theorem getD_out {l : List Tx} {t : Tx} {j : Nat} (h : l.length ≤ j) : l.getD j t = t := by simp [List.getD, List.getElem?_eq_none h]
theorem getD_any {l : List Tx} {s t : Tx} {j : Nat} (h : j < l.length) : l.getD j t = l.getD j s := by simp [List.getD, List.getElem?_eq_getElem h]
theorem bytes_inj {s t : Tx} : (ByteArray.mk s.toArray = ByteArray.mk t.toArray) ↔ s = t := by
  constructor
  · intro h
    have := congrArg ByteArray.toList h
    rwa [tx_list, tx_list] at this
  · rintro rfl; rfl
/-- a text sought among texts in order. -/
theorem searchT_any (base n c : Nat) (A : Option Addr) (xs : List Tx) (t : Tx) (w : World) (h : Own w base 9 1 (.slice A n c) n (svs xs)) (hb : n < 4611686018427387904) (hx : ltT xs) :
    Calls Tryz.prog 46 #[.slice A n c, .string ⟨t.toArray⟩] w (fun en w' => en = .returned (.tuple #[.int .i64 (ordT xs t : Nat), .bool (decide (t ∈ xs))]) ∧ ∃ q, w' = w.drewN q) := by
  have hrd := h.rd
  obtain ⟨hl, A', c', hv, hn, hm, hA⟩ := h
  injection hv with h1 h2 h3
  subst h1; subst h3
  rw [svs_len, Nat.mul_one] at hl
  rcases hA with ⟨rfl, rfl⟩ | ⟨g, cur, rfl, hb', hh, hcs, ht⟩
  · have h0 : n = 0 := by omega
    subst h0
    have hx : xs = [] := List.eq_nil_of_length_eq_zero hl
    subst hx
    refine (Any2.slices_BinarySearch_string_empty Tryz.searchStr none 0 _ w).mono ?_
    rintro en w' ⟨rfl, rfl⟩
    exact ⟨by simp [ordT], 0, rfl⟩
  · have hc := Any2.slices_BinarySearch_string Tryz.searchStr g 0 n c (fun j => ⟨(xs.getD j t).toArray⟩) ⟨t.toArray⟩ w hb (fun j hj => by
      obtain ⟨ad, e, _, hcell⟩ := hrd j (sv (xs.getD j [])) (svs_get (by omega))
      injection e with e
      subst e
      rw [Addr.add_lit] at hcell
      rw [getD_any (s := []) (by omega)]
      exact hcell)
    have hbs : Lib.bsGo (fun k => Op.bytesLess (ByteArray.mk (xs.getD k t).toArray).toList (ByteArray.mk t.toArray).toList) n 0 n = ordT xs t := by
      refine Lib.bsGo_spec _ (ordT xs t) (fun k hk => ?_) (fun k hk => ?_) n 0 n (by omega) (Nat.zero_le _) (by have := ordT_le xs t; omega)
      · rw [tx_lt]
        refine decide_eq_true ?_
        have hk2 := ordT_le xs t
        rw [getD_any (s := []) (by omega)]
        exact ordT_below xs t hk
      · rw [tx_lt]
        refine decide_eq_false ?_
        by_cases hkn : k < xs.length
        · rw [getD_any (s := []) hkn]
          exact ordT_above hx t hk hkn
        · rw [getD_out (by omega)]
          exact tl_irrefl _
    rw [hbs] at hc
    refine hc.mono ?_
    rintro en w' ⟨rfl, q, rfl⟩
    refine ⟨?_, q, rfl⟩
    have hd : (ordT xs t < n ∧ (fun j => (ByteArray.mk (xs.getD j t).toArray)) (ordT xs t) = ⟨t.toArray⟩) ↔ t ∈ xs := by
      constructor
      · rintro ⟨h1, h2⟩
        have h3 := bytes_inj.1 h2
        rw [← h3, getD_any (s := []) (by omega)]
        exact getD_mem (by omega)
      · intro hm
        obtain ⟨h1, h2⟩ := ordT_mem hx hm
        refine ⟨by omega, bytes_inj.2 ?_⟩
        rw [getD_any (s := []) h1, h2]
    simp only [decide_eq_decide.2 hd]
end Go.Proofs.YtnjcncidlhllmaaGreat
namespace Go.Proofs.YtnjcncidlhllmaaGreat
set_option linter.unusedVariables false
set_option linter.unusedSimpArgs false
open Go.RowKit

def txt (t : Tx) : List UInt8 := enc t.length ++ t
def txts (l : List Tx) : List UInt8 := (l.map txt).flatten
theorem txts_snoc (l : List Tx) (t : Tx) : txts (l ++ [t]) = txts l ++ txt t := by simp [txts]
/-- all texts of rows; the numbers of a row's texts. -/
def termsV (rows : RwT) : List Tx := setT rows.flatten
def ordsV (ts l : List Tx) : List Int := (setT l).map (fun t => ((ordT ts t : Nat) : Int))
def ordsR (rows : RwT) : Rw := rows.map (ordsV (termsV rows))
def okT (rows : RwT) : Prop := okR rows ∧ ∀ l ∈ rows, ∀ t ∈ l, t.length ≤ 256
instance okR_dec (rows : RwT) : Decidable (okR rows) := inferInstanceAs (Decidable (_ ∧ _))
instance okT_dec (rows : RwT) : Decidable (okT rows) := inferInstanceAs (Decidable (_ ∧ _))
def textsB (rows : RwT) : List UInt8 := enc (termsV rows).length ++ txts (termsV rows) ++ formV (ordsR rows)
def keptT (rows : RwT) : List UInt8 := if okT rows then textsB rows else []
theorem termsV_lt (rows : RwT) : ltT (termsV rows) := setT_lt _
theorem termsV_mem (rows : RwT) (t : Tx) : t ∈ termsV rows ↔ ∃ l ∈ rows, t ∈ l := by
  rw [termsV, setT_mem, List.mem_flatten]
theorem flat_le : ∀ r : RwT, (∀ l ∈ r, l.length ≤ 64) → r.flatten.length ≤ 64 * r.length
  | [], _ => by simp
  | x :: t, h => by
    have h1 := flat_le t (fun l hl => h l (List.mem_cons_of_mem _ hl))
    have h2 := h x List.mem_cons_self
    rw [List.flatten_cons, List.length_append, List.length_cons]
    omega
theorem termsV_le {rows : RwT} (h : okR rows) : (termsV rows).length ≤ 1048576 := by
  have h1 := setT_le rows.flatten
  have h2 := flat_le rows h.2
  have h3 := h.1
  unfold termsV
  omega
/-- texts of which each row has each once. -/
theorem termsV_sets (rows : RwT) : setT (rows.map setT).flatten = termsV rows := by
  refine setT_of (termsV_lt rows) (fun t => ?_)
  rw [termsV_mem, List.mem_flatten]
  constructor
  · rintro ⟨l, hl, ht⟩
    exact ⟨setT l, List.mem_map.2 ⟨l, hl, rfl⟩, (setT_mem l t).2 ht⟩
  · rintro ⟨m, hm, ht⟩
    obtain ⟨l, hl, rfl⟩ := List.mem_map.1 hm
    exact ⟨l, hl, (setT_mem l t).1 ht⟩
theorem ordsV_len (ts l : List Tx) : (ordsV ts l).length = (setT l).length := by simp [ordsV]
theorem ordsR_len (rows : RwT) : (ordsR rows).length = rows.length := by simp [ordsR]
theorem ordsR_ok {rows : RwT} (h : okR rows) : okV (ordsR rows) := ⟨by rw [ordsR_len]; exact h.1, fun l hl => by
  obtain ⟨m, hm, rfl⟩ := List.mem_map.1 hl
  rw [ordsV_len]
  exact Nat.le_trans (setT_le m) (h.2 m hm)⟩
theorem ordsV_in {ts l : List Tx} (h : ts.length ≤ 1048576) : InI (ordsV ts l) := fun x hx => by
  obtain ⟨t, _, rfl⟩ := List.mem_map.1 hx
  have := ordT_le ts t
  omega
theorem ordsR_in {rows : RwT} (h : okR rows) : ∀ l ∈ ordsR rows, InI l := fun l hl => by
  obtain ⟨m, hm, rfl⟩ := List.mem_map.1 hl
  exact ordsV_in (termsV_le h)
theorem enc_le (n : Nat) : (enc n).length ≤ 10 := (enc_len n).2
theorem txts_le : ∀ l : List Tx, (∀ t ∈ l, t.length ≤ 256) → (txts l).length ≤ 266 * l.length
  | [], _ => by simp [txts]
  | x :: r, h => by
    have h1 := txts_le r (fun t ht => h t (List.mem_cons_of_mem _ ht))
    have h2 := h x List.mem_cons_self
    have h3 := enc_le x.length
    have e : txts (x :: r) = txt x ++ txts r := by simp [txts]
    rw [e, List.length_append, List.length_cons, txt, List.length_append]
    omega
theorem take_getDR {rows : RwT} {k : Nat} (h : k < rows.length) : rows.take (k + 1) = rows.take k ++ [rows.getD k []] := take_getD [] h
theorem getD_memR {rows : RwT} {k : Nat} (h : k < rows.length) : rows.getD k [] ∈ rows := by
  rw [List.getD, List.getElem?_eq_getElem h]
  exact List.getElem_mem _
/-- between: the first k rows are sets, the others sorted alone. -/
def mixR (rows : RwT) (k : Nat) : RwT := (rows.take k).map setT ++ (rows.drop k).map sortT
theorem mixR_zero (rows : RwT) : mixR rows 0 = sortR rows := by simp [mixR, sortR]
theorem mixR_all {rows : RwT} {k : Nat} (h : rows.length ≤ k) : mixR rows k = rows.map setT := by
  simp [mixR, List.take_of_length_le h, List.drop_eq_nil_of_le h]
theorem mixR_len (rows : RwT) (k : Nat) (h : k ≤ rows.length) : (mixR rows k).length = rows.length := by
  simp [mixR]; omega
theorem mixR_at {rows : RwT} {k : Nat} (h : k < rows.length) : (mixR rows k)[k]? = some (sortT (rows.getD k [])) := by
  unfold mixR
  rw [List.getElem?_append_right (by simp; omega)]
  simp [List.getD, List.getElem?_eq_getElem h, Nat.min_eq_left (Nat.le_of_lt h)]
theorem mixR_set {rows : RwT} {k : Nat} (h : k < rows.length) : (mixR rows k).set k (setT (rows.getD k [])) = mixR rows (k + 1) := by
  have hd : rows.drop k = rows.getD k [] :: rows.drop (k + 1) := by
    rw [List.drop_eq_getElem_cons h, List.getD, List.getElem?_eq_getElem h]
    rfl
  unfold mixR
  rw [List.set_append_right _ _ (by simp; omega), hd, take_getDR h]
  simp [Nat.min_eq_left (Nat.le_of_lt h)]
/-- between: the numbers of the first k rows. -/
def mixO (rows : RwT) (ts : List Tx) (k : Nat) : Rw := (rows.take k).map (ordsV ts) ++ List.replicate (rows.length - k) []
theorem mixO_zero (rows : RwT) (ts : List Tx) : mixO rows ts 0 = List.replicate rows.length [] := by simp [mixO]
theorem mixO_all {rows : RwT} {ts : List Tx} {k : Nat} (h : rows.length ≤ k) : mixO rows ts k = rows.map (ordsV ts) := by
  simp [mixO, List.take_of_length_le h, show rows.length - k = 0 by omega]
theorem mixO_len (rows : RwT) (ts : List Tx) {k : Nat} (h : k ≤ rows.length) : (mixO rows ts k).length = rows.length := by
  simp [mixO]; omega
theorem mixO_at {rows : RwT} {ts : List Tx} {k : Nat} (h : k < rows.length) : (mixO rows ts k)[k]? = some [] := by
  unfold mixO
  rw [List.getElem?_append_right (by simp; omega), List.getElem?_replicate, if_pos (by simp; omega)]
theorem mixO_set {rows : RwT} {ts : List Tx} {k : Nat} (h : k < rows.length) : (mixO rows ts k).set k (ordsV ts (rows.getD k [])) = mixO rows ts (k + 1) := by
  unfold mixO
  obtain ⟨m, hm⟩ : ∃ m, rows.length - k = m + 1 := ⟨rows.length - k - 1, by omega⟩
  rw [List.set_append_right _ _ (by simp; omega), hm, take_getDR h, show rows.length - (k + 1) = m by omega]
  simp [Nat.min_eq_left (Nat.le_of_lt h), List.replicate_succ]
end Go.Proofs.YtnjcncidlhllmaaGreat
namespace Go.Proofs.YtnjcncidlhllmaaGreat
set_option linter.unusedVariables false
set_option linter.unusedSimpArgs false
open Go.RowKit

/-- lists of texts that are read. -/
def TSl (w : World) (B : Nat) (A : Option Addr) (bss : List (List Tx)) : Prop :=
  ∀ j bs, bss[j]? = some bs → ∃ ad Aj cj, A = some ad ∧ ad.block < B ∧ w.cell? (ad.add j) = some (.slice Aj bs.length cj) ∧ bs.length ≤ cj ∧ cj ≤ maxLen ∧ Rd w B Aj (svs bs)
theorem TSl.fr {S : Nat → Prop} {w w' : World} {B : Nat} {A : Option Addr} {bss : List (List Tx)} (h : TSl w B A bss) (f : Fr S w w') (hS : ∀ k, k < B → ¬ S k) : TSl w' B A bss := fun j bs hj => by
  obtain ⟨ad, Aj, cj, e, hb, hc, h1, h2, hr⟩ := h j bs hj
  exact ⟨ad, Aj, cj, e, hb, f.cell hc (by rw [block_of_add]; exact hS _ hb), h1, h2, hr.fr f hS⟩
theorem TSl.fr0 {w w' : World} {B : Nat} {A : Option Addr} {bss : List (List Tx)} (h : TSl w B A bss) (f : Fr No w w') : TSl w' B A bss := h.fr f (fun _ _ h => h)
theorem TSl.more {w : World} {B B' : Nat} {A : Option Addr} {bss : List (List Tx)} (h : TSl w B A bss) (hB : B ≤ B') : TSl w B' A bss := fun j bs hj => by
  obtain ⟨ad, Aj, cj, e, hb, hc, h1, h2, hr⟩ := h j bs hj
  exact ⟨ad, Aj, cj, e, by omega, hc, h1, h2, hr.more hB⟩

theorem TSl.single {w : World} {B n c : Nat} {A : Option Addr} {bs : List Tx} {e : TypeId} (hn : bs.length = n) (h1 : n ≤ c) (h2 : c ≤ maxLen) (hr : Rd w B A (svs bs)) (hB : B ≤ w.heap.size) : TSl (w.alloc (.cells #[.slice A n c] e)) (w.heap.size + 1) (some ⟨w.heap.size, 0, none⟩) [bs] := by
  subst hn
  intro j bs' hj
  cases j with
  | zero =>
    injection hj with hj
    subst hj
    refine ⟨_, A, c, rfl, by simp, ?_, h1, h2, (hr.fr0 ((Fr.refl _ _).alloc _)).more (by omega)⟩
    rw [Addr.add_lit, cell_of_row _ w.heap.size (0 + 0) #[.slice A bs.length c] e (0, 0) (heap_alloc_new w _)]
    rfl
  | succ j => simp at hj


/-- slices of texts that were handed out: each of its own memory. -/
structure ValsT (w : World) (base : Nat) (vals : List Value) (bss : List (List Tx)) : Prop where
  len : vals.length = bss.length
  own : ∀ (j : Nat) (v : Value) (bs : List Tx), vals[j]? = some v → bss[j]? = some bs → Own w base 9 1 v bs.length (svs bs)
  dis : ∀ (i j : Nat) (vi vj : Value), i < j → vals[i]? = some vi → vals[j]? = some vj → ∀ k, vi.ownBlock = some k → vj.ownBlock ≠ some k
section
variable {S : Nat → Prop} {w w' : World} {base : Nat} {vals : List Value} {bss : List (List Tx)}
theorem ValsT.nil (w : World) (base : Nat) : ValsT w base [] [] := ⟨rfl, fun j v bs h => by simp at h, fun i j vi vj _ h => by simp at h⟩
theorem ValsT.get (h : ValsT w base vals bss) {j : Nat} {v : Value} (hv : vals[j]? = some v) : ∃ bs, bss[j]? = some bs ∧ Own w base 9 1 v bs.length (svs bs) := by
  have hj := (List.getElem?_eq_some_iff.1 hv).1
  rw [h.len] at hj
  exact ⟨_, List.getElem?_eq_getElem hj, h.own j v _ hv (List.getElem?_eq_getElem hj)⟩
theorem ValsT.fr (h : ValsT w base vals bss) (f : Fr S w w') (hS : ∀ (j : Nat) v, vals[j]? = some v → ∀ k, v.ownBlock = some k → ¬ S k) : ValsT w' base vals bss :=
  ⟨h.len, fun j v bs hv hb => (h.own j v bs hv hb).fr f (hS j v hv), h.dis⟩
theorem ValsT.fr0 (h : ValsT w base vals bss) (f : Fr No w w') : ValsT w' base vals bss := h.fr f (fun _ _ _ _ _ h => h)
theorem ValsT.above (h : ValsT w base vals bss) (f : Fr S w w') (hS : ∀ k, S k → k < base) : ValsT w' base vals bss := h.fr f (fun j v hv k hk e => by
  obtain ⟨bs, _, ho⟩ := h.get hv
  have := (ho.lt k hk).1
  have := hS k e
  omega)
theorem ValsT.other {b2 e2 s2 n2 : Nat} {v2 : Value} {xs2 : List Value} (h : ValsT w base vals bss) (o : Own w b2 e2 s2 v2 n2 xs2) (hne : 9 ≠ e2) (f : Fr (fun k => v2.ownBlock = some k) w w') : ValsT w' base vals bss := h.fr f (fun j v hv k hk e => by
  obtain ⟨bs, _, ho⟩ := h.get hv
  exact ho.apart o hne k hk e)
theorem ValsT.lower {b2 : Nat} (h : ValsT w base vals bss) (hb : b2 ≤ base) : ValsT w b2 vals bss := ⟨h.len, fun j v bs hv hb' => (h.own j v bs hv hb').lower hb, h.dis⟩
theorem ValsT.snoc {w0 : World} {v : Value} {bs : List Tx} (h0 : ValsT w0 base vals bss) (h : ValsT w base vals bss) (o : Own w w0.heap.size 9 1 v bs.length (svs bs)) (hb : base ≤ w0.heap.size) : ValsT w base (vals ++ [v]) (bss ++ [bs]) := by
  have hl := h.len
  refine ⟨by simp [hl], ?_, ?_⟩
  · intro j v' bs' hv hb'
    by_cases hj : j < vals.length
    · rw [List.getElem?_append_left hj] at hv
      rw [List.getElem?_append_left (by omega)] at hb'
      exact h.own j v' bs' hv hb'
    · have hj1 := (List.getElem?_eq_some_iff.1 hv).1
      have e1 : j = vals.length := by simp at hj1; omega
      subst e1
      rw [List.getElem?_append_right (Nat.le_refl _), Nat.sub_self] at hv
      rw [hl, List.getElem?_append_right (Nat.le_refl _), Nat.sub_self] at hb'
      simp at hv hb'
      subst hv; subst hb'
      exact o.lower hb
  · intro i j vi vj hij hi hj k hk
    have hj1 := (List.getElem?_eq_some_iff.1 hj).1
    by_cases hjl : j < vals.length
    · rw [List.getElem?_append_left (by omega)] at hi
      rw [List.getElem?_append_left hjl] at hj
      exact h.dis i j vi vj hij hi hj k hk
    · have e1 : j = vals.length := by simp at hj1; omega
      subst e1
      rw [List.getElem?_append_left hij] at hi
      rw [List.getElem?_append_right (Nat.le_refl _), Nat.sub_self] at hj
      simp at hj
      subst hj
      intro hk2
      obtain ⟨bs', _, ho⟩ := h0.get hi
      have h1 := (ho.lt k hk).2
      have h2 := (o.lt k hk2).1
      omega
/-- as lists that are read. -/
theorem ValsT.isl (h : ValsT w base vals bss) {A : Option Addr} (hr : Rd w w.heap.size A vals) : TSl w w.heap.size A bss := fun j bs hj => by
  have hj1 := (List.getElem?_eq_some_iff.1 hj).1
  have hv : vals[j]? = some (vals[j]'(by rw [h.len]; exact hj1)) := List.getElem?_eq_getElem _
  obtain ⟨ad, e, hb, hc⟩ := hr j _ hv
  have ho := h.own j _ bs hv hj
  obtain ⟨A', c', hv', h1, h2, _, h3, _⟩ := ho.form
  rw [hv'] at hc
  exact ⟨ad, A', c', e, hb, hc, h1, h2, h3⟩
end
end Go.Proofs.YtnjcncidlhllmaaGreat
namespace Go.Proofs.YtnjcncidlhllmaaGreat
set_option linter.unusedVariables false
set_option linter.unusedSimpArgs false
open Go.RowKit

theorem tbeq_dec (a b : Tx) : (a == b) = decide (a = b) := by by_cases h : a = b <;> simp [h]
set_option maxRecDepth 100000 in
set_option maxHeartbeats 800000 in
theorem sameS_any (A B : Option Addr) (n c m d b1 b2 : Nat) (xs ys : List Tx) (w : World) (hx : xs.length = n) (hy : ys.length = m) (hn : n ≤ c) (hc : c ≤ maxLen) (hm : m ≤ d) (hd : d ≤ maxLen) (hr : Rd w b1 A (svs xs)) (hs : Rd w b2 B (svs ys)) :
    Calls Tryz.prog 32 #[.slice A n c, .slice B m d] w (RetQ (.bool (decide (xs = ys))) w) := by
  unfold maxLen at hc hd
  have HX := hide hx
  have HY := hide hy
  have HR := hide hr
  have HS := hide hs
  clear hx hy hr hs
  by_cases hnm : n = m
  · subst hnm
    have hb : ((n : Int) != n) = false := by simp
    go_enter Tryz.func32, Tryz.ntmps32
    go_wp2
    go_loopw [5] (fun i wr => ∃ k nq : Nat, k ≤ n ∧ i = .int .i64 k ∧ wr = w.drewN nq ∧ Hid (xs.take k = ys.take k)) (fun i _ => n - (intOf i).toNat)
    case atStart => exact ⟨0, 0, by omega, rfl, rfl, hide rfl⟩
    case round =>
      obtain ⟨k, nq, hk, rfl, rfl, HT⟩ := hrel
      by_cases hlt : k < n
      · have h1 : k < xs.length := by rw [HX.out]; exact hlt
        have h2 : k < ys.length := by rw [HY.out]; exact hlt
        obtain ⟨ad, X, rfl, _, hcell, _, hX, _⟩ := cellStr HR.out h1
        obtain ⟨bd, Y, rfl, _, hcell2, _, hY, _⟩ := cellStr HS.out h2
        have HE : Hid (xs.getD k [] = ys.getD k [] → xs.take (k + 1) = ys.take (k + 1)) := hide (fun he => by rw [take_getD [] h1, take_getD [] h2, HT.out, he])
        have HN : Hid (xs.getD k [] ≠ ys.getD k [] → xs ≠ ys) := hide (fun h e => h (by rw [e]))
        have hq : (X.toList == Y.toList) = decide (xs.getD k [] = ys.getD k []) := by rw [hX, hY]; exact tbeq_dec _ _
        clear h1 h2 hX hY
        by_cases he : xs.getD k [] = ys.getD k []
        · have HE' := hide (HE.out he)
          rw [decide_eq_true he] at hq
          have hq2 : (X.toList != Y.toList) = false := by simpa [bne] using hq
          clear HE HN he
          go_wp2
          go_quiet (fail)
          go_wp2
          go_round
          case rel => exact ⟨k + 1, _, by omega, by go_num, rfl, HE'⟩
          case measure => simp [intOf]; omega
        · rw [decide_eq_false he] at hq
          have hq2 : (X.toList != Y.toList) = true := by simpa [bne] using hq
          have HF := hide (HN.out he)
          clear HN HE he
          go_wp2
          go_quiet (fail)
          go_wp2
          go_ret
          exact ⟨by rw [decide_eq_false HF.out]; rfl, _, World.drewN_drewN _ _ _⟩
      · have HF := hide (show xs = ys by
          have h := HT.out
          rwa [List.take_of_length_le (by rw [HX.out]; omega), List.take_of_length_le (by rw [HY.out]; omega)] at h)
        go_wp2
        go_ret
        exact ⟨by rw [decide_eq_true HF.out]; rfl, _, rfl⟩
  · have hb : ((n : Int) != m) = true := by simp; omega
    have HF := hide (show xs ≠ ys from fun e => hnm (by rw [← HX.out, ← HY.out, e]))
    go_enter Tryz.func32, Tryz.ntmps32
    go_wp2
    go_ret
    exact ⟨by rw [decide_eq_false HF.out]; rfl, 0, rfl⟩

def markT : Tx := [109, 97, 114, 107]
def GivesLentS (w : World) (xs : List Tx) (en : Ending) (w' : World) : Prop :=
  ∃ A c, en = .returned (.slice A xs.length c) ∧ Own w' w.heap.size 9 1 (.slice A (xs.length + 1) c) (xs.length + 1) (svs (xs ++ [markT])) ∧ Fr No w w'
theorem svs_one (xs : List Tx) : ∀ u ∈ svs xs, u.oneCell' = true := by
  intro u hu
  obtain ⟨t, _, rfl⟩ := List.mem_map.1 hu
  rfl

set_option maxRecDepth 100000 in
set_option maxHeartbeats 800000 in
theorem lentS_any (A : Option Addr) (n c B : Nat) (xs : List Tx) (w : World) (hl : xs.length = n) (hb : (n + 1) * 16 ≤ 140737488355328) (hr : Rd w B A (svs xs)) :
    Calls Tryz.prog 47 #[.slice A n c] w (GivesLentS w xs) := by
  obtain ⟨i0, hi, hz, hsz, hby⟩ := info_parts Tryz.infoS
  have HS := hide (Src.ofRd (P := Tryz.prog) (size := 1) w Tryz.underlying43 A n c (svs xs) (by rw [svs_len, hl]; omega) (by omega) hr (svs_one _))
  have HL := hide hl
  clear hr hl
  have b1 : (0 + n) * 16 ≤ 140737488355328 := by omega
  have b2 : 0 + n ≤ maxLen := by unfold maxLen; omega
  have c1 : (0 + n + 1) * 16 ≤ 140737488355328 := by omega
  have c2 : 0 + n + 1 ≤ maxLen := by unfold maxLen; omega
  have HO0 := hide (Own.nil w w.heap.size 9 1)
  go_enter Tryz.func47, Tryz.ntmps47
  go_wp2_with (first
    | (at_builtin; refine wpList_append_gen _ rfl (.tmp 4) (.tmp 5) 43 43 rfl w.heap.size 9 i0 (.string ⟨#[]⟩) 1 16 Tryz.underlying43 hi hz hsz hby rfl (.slice none 0 0) 0 [] rfl HO0.out _ n (svs xs) rfl HS.out b1 b2 (Nat.le_refl _) ?_; intro v1 w1 hown hfr hat; have HO1 := hide hown; have HF1 : Hid (Fr No w w1) := hide ((Fr.refl No w).own hfr (fun g h => by cases h)); have hz1 := hfr.size; clear hown hfr hat)
    | (at_builtin; refine wpList_append_gen _ rfl (.tmp 7) (.tmp 8) 43 43 rfl w.heap.size 9 i0 (.string ⟨#[]⟩) 1 16 Tryz.underlying43 hi hz hsz hby rfl v1 (0 + n) _ rfl (HO1.out.fr0 ((Fr.refl No w1).alloc (.cells #[.string ⟨#[109, 97, 114, 107]⟩] 9))) _ 1 [.string ⟨#[109, 97, 114, 107]⟩] rfl (Src.one (P := Tryz.prog) w1 (e := 9) Tryz.underlying43 (.string ⟨#[109, 97, 114, 107]⟩) rfl) c1 c2 (by simp; omega) ?_; intro v2 w2 hown hfr hat; obtain ⟨A2, k2, rfl, hc1, hc2, _⟩ := hown.form; unfold maxLen at hc2; have HO2 := hide hown; have HF2 : Hid (Fr No w w2) := hide ((HF1.out.alloc _).own hfr (fun g hg => .inl (HO1.out.lt g hg).1)); clear hown hfr hat))
  go_ret
  refine ⟨A2, k2, ?_, ?_, HF2.out⟩
  · rw [HL.out]; first | rfl | simp
  · have h := HO2.out
    rw [HL.out, svs_snoc]
    simpa [sv, markT] using h
end Go.Proofs.YtnjcncidlhllmaaGreat
namespace Go.Proofs.YtnjcncidlhllmaaGreat
set_option linter.unusedVariables false
set_option linter.unusedSimpArgs false
open Go.RowKit

theorem svs_take (l : List Tx) (n : Nat) : svs (l.take n) = (svs l).take n := by simp [svs]
/-- lists of texts that are lent: each with a mark behind it, in its own memory. -/
theorem own_lenT (A : Option Addr) (n m c d : Nat) : (Value.slice A n c).ownBlock = (Value.slice A m d).ownBlock := by cases A <;> rfl
structure LentsT (w : World) (base : Nat) (vals : List Value) (bss : List (List Tx)) : Prop where
  len : vals.length = bss.length
  own : ∀ (j : Nat) (v : Value) (bs : List Tx), vals[j]? = some v → bss[j]? = some bs → ∃ A c, v = .slice A bs.length c ∧ Own w base 9 1 (.slice A (bs.length + 1) c) (bs.length + 1) (svs (bs ++ [markT]))
section
variable {S : Nat → Prop} {w w' : World} {base : Nat} {vals : List Value} {bss : List (List Tx)}
theorem LentsT.nil (w : World) (base : Nat) : LentsT w base [] [] := ⟨rfl, fun j v bs h => by simp at h⟩
theorem LentsT.fr (h : LentsT w base vals bss) (f : Fr S w w') (hS : ∀ (j : Nat) v, vals[j]? = some v → ∀ k, v.ownBlock = some k → ¬ S k) : LentsT w' base vals bss :=
  ⟨h.len, fun j v bs hv hb => by
    obtain ⟨A, c, rfl, ho⟩ := h.own j v bs hv hb
    exact ⟨A, c, rfl, ho.fr f (fun g hg => hS j _ hv g (by rw [own_lenT A bs.length (bs.length + 1) c c]; exact hg))⟩⟩
theorem LentsT.fr0 (h : LentsT w base vals bss) (f : Fr No w w') : LentsT w' base vals bss := h.fr f (fun _ _ _ _ _ h => h)
theorem LentsT.lt (h : LentsT w base vals bss) {j : Nat} {v : Value} (hv : vals[j]? = some v) : ∀ k, v.ownBlock = some k → base ≤ k ∧ k < w.heap.size := by
  intro k hk
  have hj := (List.getElem?_eq_some_iff.1 hv).1
  rw [h.len] at hj
  obtain ⟨A, c, rfl, ho⟩ := h.own j v _ hv (List.getElem?_eq_getElem hj)
  exact ho.lt k (by rw [own_lenT A _ (bss[j].length) c c]; exact hk)
theorem LentsT.other {b2 e2 s2 n2 : Nat} {v2 : Value} {xs2 : List Value} (h : LentsT w base vals bss) (o : Own w b2 e2 s2 v2 n2 xs2) (hne : 9 ≠ e2) (f : Fr (fun k => v2.ownBlock = some k) w w') : LentsT w' base vals bss :=
  ⟨h.len, fun j v bs hv hb => by
    obtain ⟨A, c, rfl, ho⟩ := h.own j v bs hv hb
    exact ⟨A, c, rfl, ho.fr f (fun g hg => ho.apart o hne g hg)⟩⟩
theorem LentsT.snoc {A : Option Addr} {c : Nat} {bs : List Tx} (h : LentsT w base vals bss) (o : Own w base 9 1 (.slice A (bs.length + 1) c) (bs.length + 1) (svs (bs ++ [markT]))) : LentsT w base (vals ++ [.slice A bs.length c]) (bss ++ [bs]) := by
  have hl := h.len
  refine ⟨by simp [hl], ?_⟩
  intro j v' bs' hv hb'
  by_cases hj : j < vals.length
  · rw [List.getElem?_append_left hj] at hv
    rw [List.getElem?_append_left (by omega)] at hb'
    exact h.own j v' bs' hv hb'
  · have hj1 := (List.getElem?_eq_some_iff.1 hv).1
    have e1 : j = vals.length := by simp at hj1; omega
    subst e1
    rw [List.getElem?_append_right (Nat.le_refl _), Nat.sub_self] at hv
    rw [hl, List.getElem?_append_right (Nat.le_refl _), Nat.sub_self] at hb'
    simp at hv hb'
    subst hv; subst hb'
    exact ⟨A, c, rfl, o⟩
theorem LentsT.tsl (h : LentsT w base vals bss) {A : Option Addr} (hr : Rd w w.heap.size A vals) : TSl w w.heap.size A bss := fun j bs hj => by
  have hj1 := (List.getElem?_eq_some_iff.1 hj).1
  have hv : vals[j]? = some (vals[j]'(by rw [h.len]; exact hj1)) := List.getElem?_eq_getElem _
  obtain ⟨ad, e, hb, hc⟩ := hr j _ hv
  obtain ⟨A', c', hv', ho⟩ := h.own j _ bs hv hj
  rw [hv'] at hc
  have hle := ho.le
  refine ⟨ad, A', c', e, hb, hc, by omega, hle.2.2, ?_⟩
  have h3 := ho.rd.tk bs.length
  rw [← svs_take, List.take_left] at h3
  exact h3
end
end Go.Proofs.YtnjcncidlhllmaaGreat
namespace Go.Proofs.YtnjcncidlhllmaaGreat
set_option linter.unusedVariables false
set_option linter.unusedSimpArgs false
open Go.RowKit

theorem Tryz.infoRT : (Tryz.prog.info? 43).map (fun i => (i.zero, i.size, i.bytes)) = some (some (.slice none 0 0), 1, 24) := by kernel_rfl
theorem src_rowT (w : World) (A : Option Addr) (n c : Nat) : Src Tryz.prog 1 23 (.slice (some ⟨w.heap.size, 0, none⟩) 1 1) 1 [.slice A n c] (w.alloc (.cells #[.slice A n c] 43)) :=
  Src.one (P := Tryz.prog) w (e := 43) Tryz.underlying23 _ rfl
theorem take_map_getDT {rows : RwT} {i : Nat} (h : i < rows.length) : rows.take (i + 1) = rows.take i ++ [rows.getD i []] := by
  rw [List.take_succ_eq_append_getElem h, List.getD, List.getElem?_eq_getElem h]
  rfl
theorem TSl.at {w : World} {B : Nat} {A : Option Addr} {rows : RwT} (h : TSl w B A rows) {i : Nat} (hi : i < rows.length) : ∃ ad Ai ci, A = some ad ∧ ad.block < B ∧ w.cell? (ad.add i) = some (.slice Ai (rows.getD i []).length ci) ∧ (rows.getD i []).length ≤ ci ∧ ci ≤ maxLen ∧ Rd w B Ai (svs (rows.getD i [])) := by
  have e : rows[i]? = some (rows.getD i []) := by rw [List.getD, List.getElem?_eq_getElem hi]; rfl
  obtain ⟨ad, Ai, ci, e, h1, h2, h3, h4, h5⟩ := h i _ e
  exact ⟨ad, Ai, ci, e, h1, h2, h3, h4, h5⟩
theorem Rd.svs_nil {w : World} {B : Nat} {l : List Tx} (h : Rd w B none (svs l)) : l = [] := by
  cases l with
  | nil => rfl
  | cons x t =>
    obtain ⟨ad, e, _⟩ := h 0 (sv x) rfl
    cases e
def GivesT (w : World) (xs : List Tx) (en : Ending) (w' : World) : Prop := ∃ v, en = .returned v ∧ Own w' w.heap.size 9 1 v xs.length (svs xs) ∧ Fr No w w'
/-- rows of texts that were lent: each with its mark. -/
def LentTR (w : World) (B : Nat) (A : Option Addr) (rows : RwT) : Prop :=
  ∀ (j : Nat) l, rows[j]? = some l → ∃ ad Aj cj, A = some ad ∧ ad.block < B ∧ w.cell? (ad.add j) = some (.slice Aj l.length cj) ∧ l.length + 1 ≤ cj ∧ cj ≤ maxLen ∧ Rd w B Aj (svs (l ++ [markT]))
theorem LentTR.fr0 {w w' : World} {B : Nat} {A : Option Addr} {rows : RwT} (h : LentTR w B A rows) (f : Fr No w w') : LentTR w' B A rows := fun j l hj => by
  obtain ⟨ad, Aj, cj, e, h1, h2, h3, h4, h5⟩ := h j l hj
  exact ⟨ad, Aj, cj, e, h1, f.cell h2 (fun h => h), h3, h4, h5.fr0 f⟩
theorem LentTR.tsl {w : World} {B : Nat} {A : Option Addr} {rows : RwT} (h : LentTR w B A rows) : TSl w B A rows := fun j l hj => by
  obtain ⟨ad, Aj, cj, e, h1, h2, h3, h4, h5⟩ := h j l hj
  refine ⟨ad, Aj, cj, e, h1, h2, by omega, h4, ?_⟩
  have h6 := h5.tk l.length
  rw [← svs_take, List.take_left] at h6
  exact h6
theorem LentTR.at {w : World} {B : Nat} {A : Option Addr} {rows : RwT} (h : LentTR w B A rows) {i : Nat} (hi : i < rows.length) : ∃ ad Ai ci, A = some ad ∧ ad.block < B ∧ w.cell? (ad.add i) = some (.slice Ai (rows.getD i []).length ci) ∧ (rows.getD i []).length + 1 ≤ ci ∧ ci ≤ maxLen ∧ Rd w B Ai (svs (rows.getD i [] ++ [markT])) := by
  have e : rows[i]? = some (rows.getD i []) := by rw [List.getD, List.getElem?_eq_getElem hi]; rfl
  obtain ⟨ad, Ai, ci, e, h1, h2, h3, h4, h5⟩ := h i _ e
  exact ⟨ad, Ai, ci, e, h1, h2, h3, h4, h5⟩
theorem LentTR.of {w : World} {base n c : Nat} {A : Option Addr} {vals : List Value} {rows : RwT} (ho : Own w base 43 1 (.slice A n c) n vals) (hl : LentsT w base vals rows) (hn : rows.length = n) : LentTR w w.heap.size A rows := fun j l hj => by
  have hr := ho.rd
  have hvl := hl.len
  have hjl := (List.getElem?_eq_some_iff.1 hj).1
  have hv : vals[j]? = some (vals[j]'(by omega)) := List.getElem?_eq_getElem _
  obtain ⟨ad, e, hb, hc⟩ := hr j _ hv
  obtain ⟨Aj, cj, e2, hoj⟩ := hl.own j _ l hv hj
  rw [e2] at hc
  exact ⟨ad, Aj, cj, e, hb, hc, hoj.le.2.1, hoj.le.2.2, hoj.rd⟩
def GivesLT (n : Nat) (w : World) (rows : RwT) (en : Ending) (w' : World) : Prop := ∃ A c, en = .returned (.slice A n c) ∧ n ≤ c ∧ c ≤ maxLen ∧ LentTR w' w'.heap.size A rows ∧ Fr No w w'
set_option maxRecDepth 100000 in
set_option maxHeartbeats 2000000 in
theorem texts_any (A : Option Addr) (n c B : Nat) (rows : RwT) (w : World) (hl : rows.length = n) (hn : n ≤ c) (hc : c ≤ maxLen) (hb : n * 24 ≤ 140737488355328) (hlb : ∀ l ∈ rows, (l.length + 1) * 16 ≤ 140737488355328) (hB : B ≤ w.heap.size) (hr : TSl w B A rows) :
    Calls Tryz.prog 13 #[.slice A n c] w (GivesLT n w rows) := by
  have HR := hide hr
  have HL := hide hl
  have HB := hide hlb
  clear hr hl hlb
  unfold maxLen at hc
  obtain ⟨i1, hi1, hz1, hsz1, hby1⟩ := info_parts Tryz.infoRT
  go_enter Tryz.func13, Tryz.ntmps13
  go_wp2
  go_loopw [3, 4, 5] (fun v3 i _ wr => ∃ (k : Nat) (vals : List Value), k ≤ n ∧ i = .int .i64 (k : Nat) ∧ Hid (Fr No w wr) ∧ Hid (Own wr w.heap.size 43 1 v3 k vals) ∧ Hid (LentsT wr w.heap.size vals (rows.take k))) (fun _ i _ _ => n - (intOf i).toNat)
  case atStart => exact ⟨0, [], by omega, by go_num, hide (Fr.refl _ _), hide (Own.nil _ _ _ _), hide (by rw [List.take_zero]; exact LentsT.nil _ _)⟩
  case round =>
    obtain ⟨k, vals, hk, rfl, HF, HO, HV⟩ := hrel
    by_cases hlt : k < n
    · have hk1 : k < rows.length := by rw [HL.out]; exact hlt
      obtain ⟨ad, Ai, ci, rfl, hadb, hcell, hc1, hc2, hrd⟩ := HR.out.at hk1
      have hcell := HF.out.cell hcell (fun h => h)
      have hlb := HB.out (rows.getD k []) (by rw [List.getD, List.getElem?_eq_getElem hk1]; exact List.getElem_mem hk1)
      obtain ⟨li, hli⟩ : ∃ x, x = (rows.getD k []).length := ⟨_, rfl⟩
      rw [← hli] at hcell hc1 hlb
      have HLI := hide hli
      have hws := HF.out.size
      have HCl := hide (lentS_any Ai li ci B (rows.getD k []) wr hli.symm hlb (hrd.fr0 HF.out))
      have hc2' := hc2
      unfold maxLen at hc2'
      have HT := hide (take_map_getDT hk1)
      have b1 : (k + 1) * 24 ≤ 140737488355328 := by omega
      have b2 : k + 1 ≤ maxLen := by unfold maxLen; omega
      clear hrd hk1 hadb hli hlb
      go_wp2_with (first
        | (go_at_call 47; refine HCl.out.mono ?_; rintro e1 w3 ⟨A2, c2, rfl, hown, hfr⟩; rw [← HLI.out] at hown ⊢; have HO3 := hide hown; have hle2 := hown.le; have HF3 := hide hfr; have HF03 : Hid (Fr No w w3) := hide (HF.out.trans HF3.out (fun _ _ h => h.elim)); have HV3 := hide (HV.out.fr0 HF3.out); have HOut := hide ((HO.out.fr0 HF3.out).fr0 ((Fr.refl No w3).alloc (.cells #[.slice A2 li c2] 43))); have hz3 : w.heap.size ≤ (w3.alloc (.cells #[.slice A2 li c2] 43)).heap.size := (by have := HF03.out.size; simp; omega); clear hown hfr)
        | (at_builtin; refine wpList_append_gen _ rfl (.tmp 17) (.tmp 19) 23 23 rfl w.heap.size 43 i1 (.slice none 0 0) 1 24 Tryz.underlying23 hi1 hz1 hsz1 hby1 rfl u3 k _ rfl HOut.out _ 1 [.slice A2 li c2] rfl (src_rowT w3 A2 li c2) b1 b2 hz3 ?_; intro v5 w5 hown hfr hat; have HO5 := hide hown; have HFa := hide hfr; clear hown hfr hat))
      go_roundw
      case rel =>
        have hV3 := HV3.out.fr0 ((Fr.refl No w3).alloc (.cells #[.slice A2 li c2] 43))
        have hO3 := (HO3.out.lower hws).fr0 ((Fr.refl No w3).alloc (.cells #[.slice A2 li c2] 43))
        refine ⟨k + 1, vals ++ [.slice A2 li c2], by omega, by go_num, hide ((HF03.out.alloc _).own HFa.out (fun g hg => .inl (HOut.out.lt g hg).1)), HO5, hide ?_⟩
        rw [HT.out]
        have h9 := hO3.fr HFa.out (fun i hi e => hO3.apart HOut.out (by decide) i hi e)
        rw [HLI.out] at h9 ⊢
        exact LentsT.snoc (hV3.other HOut.out (by decide) HFa.out) h9
      case measure => simp [intOf]; omega
    · obtain rfl : k = n := by omega
      have htk : rows.take k = rows := List.take_of_length_le (by rw [HL.out]; omega)
      rw [htk] at HV
      obtain ⟨A5, c5, rfl, q1, q2, _⟩ := HO.out.form
      have HQ := hide (And.intro q1 q2)
      unfold maxLen at q2
      clear htk
      go_wp2
      go_ret
      exact ⟨A5, c5, rfl, HQ.out.1, HQ.out.2, LentTR.of HO.out HV.out HL.out, HF.out⟩
end Go.Proofs.YtnjcncidlhllmaaGreat
