/- Words for results; bytes that are new. -/
import Derived.Test.YthbgcmffpnmbeaaMem3
import Derived.Test.YthbgcmffpnmbeaaCodecLaw
namespace Go.Proofs.Ythbgcmffpnmbeaa
set_option linter.unusedVariables false
set_option linter.unusedSimpArgs false
open Go.RowKit

def Ret (v : Value) (w : World) (en : Ending) (w' : World) : Prop := en = .returned v ∧ w = w'

/-- quiet: a value; nothing has changed but the draws. -/
def RetQ (v : Value) (w : World) (en : Ending) (w' : World) : Prop := en = .returned v ∧ ∃ n, w' = w.drewN n

/-- a bool, and nothing that was there has changed. -/
def RetB (b : Bool) (w : World) (en : Ending) (w' : World) : Prop := en = .returned (.bool b) ∧ Fr No w w'

def RetF (v : Value) (w : World) (en : Ending) (w' : World) : Prop := en = .returned v ∧ Fr No w w'

theorem Try.info5 : (Try.prog.info? 5).map (fun i => (i.zero, i.size, i.bytes)) = some (some (.int .u8 0), 1, 1) := by kernel_rfl

/-- new bytes. -/
def GivesB (w : World) (bs : List UInt8) (en : Ending) (w' : World) : Prop := ∃ v, en = .returned v ∧ Own w' w.heap.size 5 1 v bs.length (by8 bs) ∧ Fr No w w'

theorem own_empty (w : World) (e : TypeId) : Own (w.alloc (.cells #[] e)) w.heap.size e 1 (.slice (some ⟨w.heap.size, 0, none⟩) 0 0) 0 [] :=
  ⟨by simp, _, 0, rfl, Nat.le_refl _, Nat.zero_le _, .inr ⟨w.heap.size, #[], rfl, Nat.le_refl _, heap_alloc_new w _, by simp, by simp⟩⟩

theorem Rd.len0 {w : World} {B : Nat} {bs : List UInt8} (h : Rd w B none (by8 bs)) : bs = [] := by
  cases bs with
  | nil => rfl
  | cons b r => obtain ⟨_, e, _⟩ := h 0 _ rfl; cases e

/-- a new block of bytes, read. -/
theorem Rd.new8 (w : World) (cs : Array Value) (bs : List UInt8) (e : TypeId) (h : cs.toList = by8 bs) : Rd (w.alloc (.cells cs e)) (w.alloc (.cells cs e)).heap.size (some ⟨w.heap.size, 0, none⟩) (by8 bs) := by
  intro j u hu
  refine ⟨_, rfl, by simp, ?_⟩
  rw [Addr.add_lit, Nat.zero_add, cell_of_row _ w.heap.size j cs e (0, 0) (heap_alloc_new w _)]
  rw [← h] at hu
  simpa using hu

theorem give_slice {W w' : World} {en : Ending} {t : List UInt8} {k : Nat} (hk : t.length = k) (h : GivesB W t en w') :
    ∃ A1 c1, en = .returned (.slice A1 k c1) ∧ k ≤ c1 ∧ c1 ≤ maxLen ∧ Rd w' w'.heap.size A1 (by8 t) ∧ Fr No W w' := by
  subst hk
  obtain ⟨v, rfl, ho, hf⟩ := h
  obtain ⟨A1, c1, rfl, h1, h2, _, h3, _⟩ := ho.form
  exact ⟨A1, c1, rfl, h1, h2, h3, hf⟩

theorem Fr.own1 {a b c : World} {g : Nat} (h : Fr No a b) (k : Fr (Is g) b c) (hg : a.heap.size ≤ g) : Fr No a c :=
  h.trans k (fun i hi e => by have : i = g := e; omega)

theorem box0 (w : World) (v : Value) (t : TypeId) : (w.alloc (.cells #[v] t)).cell? ⟨w.heap.size, 0, none⟩ = some v :=
  cell_of_row _ w.heap.size 0 #[v] t (0, 0) (heap_alloc_new w _)

theorem box1 (w : World) (v1 v2 : Value) (t1 t2 : TypeId) : ((w.alloc (.cells #[v1] t1)).alloc (.cells #[v2] t2)).cell? ⟨w.heap.size, 0, none⟩ = some v1 :=
  cell_of_row _ w.heap.size 0 #[v1] t1 (0, 0) ((Below.heap_alloc (w.alloc (.cells #[v1] t1)) _ w.heap.size (by simp)).trans (heap_alloc_new w _))

theorem box2 (w : World) (v1 v2 : Value) (t1 t2 : TypeId) : ((w.alloc (.cells #[v1] t1)).alloc (.cells #[v2] t2)).cell? ⟨w.heap.size + 1, 0, none⟩ = some v2 := by
  have h := heap_alloc_new (w.alloc (.cells #[v1] t1)) (.cells #[v2] t2)
  have e : (w.alloc (.cells #[v1] t1)).heap.size = w.heap.size + 1 := by simp
  rw [e] at h
  exact cell_of_row _ (w.heap.size + 1) 0 #[v2] t2 (0, 0) h

theorem take_succ_eq {xs ys : List UInt8} {k : Nat} (h1 : k < xs.length) (h2 : k < ys.length) (h : xs.take k = ys.take k) (he : xs.getD k 0 = ys.getD k 0) : xs.take (k + 1) = ys.take (k + 1) := by
  rw [List.take_succ_eq_append_getElem h1, List.take_succ_eq_append_getElem h2, h]
  simp [List.getElem?_eq_getElem h1, List.getElem?_eq_getElem h2] at he
  rw [he]

theorem take_snoc8 {l : List UInt8} {k : Nat} (h : k < l.length) : l.take (k + 1) = l.take k ++ [l.getD k 0] := by
  rw [List.take_succ_eq_append_getElem h]
  simp [List.getElem?_eq_getElem h]

theorem byteCells_by8 (s : ByteArray) : (byteCells s : List Value) = by8 s.data.toList := by simp [byteCells, by8]

end Go.Proofs.Ythbgcmffpnmbeaa
