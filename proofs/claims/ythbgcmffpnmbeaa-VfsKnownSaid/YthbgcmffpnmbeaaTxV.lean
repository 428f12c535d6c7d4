/- Texts in memory. -/
import Derived.Test.YthbgcmffpnmbeaaBase
import Derived.Test.YthbgcmffpnmbeaaBSl
import Derived.Sort.Walk0
namespace Go.Proofs.Ythbgcmffpnmbeaa
set_option linter.unusedVariables false
set_option linter.unusedSimpArgs false
open Go.RowKit

abbrev Tx := List UInt8
def sv (t : Tx) : Value := .string ⟨t.toArray⟩
def svs (l : List Tx) : List Value := l.map sv
theorem svs_len (l : List Tx) : (svs l).length = l.length := by simp [svs]
theorem svs_snoc (l : List Tx) (t : Tx) : svs (l ++ [t]) = svs l ++ [sv t] := by simp [svs]
theorem svs_get {l : List Tx} {k : Nat} (h : k < l.length) : (svs l)[k]? = some (sv (l.getD k [])) := by
  simp [svs, List.getElem?_eq_getElem h]
theorem sv_inj {s t : Tx} (h : sv s = sv t) : s = t := by
  unfold sv at h
  injection h with h
  injection h with h
  have := congrArg Array.toList h
  simpa using this
theorem tx_list (t : Tx) : (ByteArray.mk t.toArray).toList = t := by rw [ByteArray.toList_eq]
theorem tx_size (t : Tx) : (ByteArray.mk t.toArray).size = t.length := by simp [ByteArray.size]
theorem tx_lt (s t : Tx) : Op.bytesLess (ByteArray.mk s.toArray).toList (ByteArray.mk t.toArray).toList = decide (s < t) := by rw [tx_list, tx_list, bytesLess_eq]
theorem tx_eq (s t : Tx) : ((ByteArray.mk s.toArray).toList == (ByteArray.mk t.toArray).toList) = decide (s = t) := by
  rw [tx_list, tx_list]
  by_cases h : s = t <;> simp [h]

theorem tl_irrefl (s : Tx) : ¬ s < s := List.lt_irrefl s
theorem tl_trans {s t u : Tx} (h : s < t) (k : t < u) : s < u := List.lt_trans h k
theorem tl_total (s t : Tx) : s < t ∨ s = t ∨ t < s := by
  by_cases h1 : s < t
  · exact .inl h1
  · by_cases h2 : t < s
    · exact .inr (.inr h2)
    · exact .inr (.inl (List.le_antisymm (List.not_lt.1 h2) (List.not_lt.1 h1)))
theorem tl_nil (s : Tx) : ¬ s < [] := List.not_lt_nil s

theorem take_getD {α : Type} {l : List α} {m : Nat} (d : α) (h : m < l.length) : l.take (m + 1) = l.take m ++ [l.getD m d] := by
  rw [List.take_succ_eq_append_getElem h]
  congr 2
  simp [List.getElem?_eq_getElem h]
theorem getD_mem {l : List Tx} {k : Nat} (h : k < l.length) : l.getD k [] ∈ l := by
  rw [List.getD, List.getElem?_eq_getElem h]
  exact List.getElem_mem _
theorem Try.infoS : (Try.prog.info? 9).map (fun i => (i.zero, i.size, i.bytes)) = some (some (.string ⟨#[]⟩), 1, 16) := by kernel_rfl
/-- a text of a row that is read. -/
theorem cellStr {w : World} {B : Nat} {A : Option Addr} {l : List Tx} (h : Rd w B A (svs l)) {k : Nat} (hk : k < l.length) :
    ∃ (ad : Addr) (X : ByteArray), A = some ad ∧ ad.block < B ∧ w.cell? (ad.add k) = some (.string X) ∧ X.data.toList = l.getD k [] ∧ X.toList = l.getD k [] ∧ X.size = (l.getD k []).length := by
  obtain ⟨ad, h1, h2, h3⟩ := h k _ (svs_get hk)
  exact ⟨ad, ⟨(l.getD k []).toArray⟩, h1, h2, h3, rfl, tx_list _, tx_size _⟩
end Go.Proofs.Ythbgcmffpnmbeaa
