/- Numbers and texts one behind the other, in plain Lean: they are read again; cut anywhere they are not. -/
import Derived.Test.YtpcoadbbngmpbaaRefA
import Derived.Test.YtpcoadbbngmpbaaTextP
import Derived.Test.YtpcoadbbngmpbaaTakeU
namespace Go.Proofs.Ytpcoadbbngmpbaa
set_option linter.unusedVariables false
set_option linter.unusedSimpArgs false
open Go.RowKit

theorem dec_short {u k : Nat} (hu : u < 18446744073709551616) (hk : k < (enc u).length) : dec 0 0 ((enc u).take k) = none := by
  cases hd : dec 0 0 ((enc u).take k) with
  | none => rfl
  | some x =>
    obtain ⟨h1, h2, h3, h4, h5, h6⟩ := dec_parts (u := x.1) (k := x.2) hd
    rw [List.length_take] at h5
    have e : enc u = enc x.1 ++ (enc u).drop x.2 := by
      rw [h6, List.take_take, Nat.min_eq_left (by omega), List.take_append_drop]
    have hl : (enc x.1).length = x.2 := by rw [h6, List.length_take, List.length_take]; omega
    have a := dec_enc x.1 h3 ((enc u).drop x.2)
    rw [← e] at a
    have b := dec_enc u hu []
    rw [List.append_nil, a] at b
    injection b with b
    injection b with _ b
    omega

/-- the state of a reader of cut bytes, where the whole ones have come to a. -/
def Cut (at_ a a' : Nat) (e' : Int) : Prop := e' = 20 ∨ (e' = 0 ∧ a' = a ∧ a ≤ at_)
section
variable {full rest : List UInt8} {at_ a a' : Nat} {e' : Int}
theorem cut_drop (h : a ≤ at_) (l : List UInt8) (hf : full.drop a = l ++ rest) : (full.take at_).drop a = (l ++ rest).take (at_ - a) := by
  rw [List.drop_take, hf]
theorem uint_whole {u : Nat} (hu : u < 18446744073709551616) (hf : full.drop a = enc u ++ rest) : uintR full a 0 = (u, a + (enc u).length, 0) :=
  uintR_some (by rw [hf]; exact dec_enc u hu rest)
theorem uint_cut {u : Nat} (hu : u < 18446744073709551616) (hf : full.drop a = enc u ++ rest) (h : Cut at_ a a' e') :
    Cut at_ (a + (enc u).length) (uintR (full.take at_) a' e').2.1 (uintR (full.take at_) a' e').2.2 := by
  rcases h with rfl | ⟨rfl, rfl, h⟩
  · left
    unfold uintR
    rw [if_neg (by decide)]
  · have hd := cut_drop h _ hf
    by_cases hc : a' + (enc u).length ≤ at_
    · have e : (full.take at_).drop a' = enc u ++ rest.take (at_ - a' - (enc u).length) := by
        rw [hd, List.take_append, List.take_of_length_le (by omega)]
      rw [uint_whole hu e]
      exact .inr ⟨rfl, rfl, hc⟩
    · have e : (full.take at_).drop a' = (enc u).take (at_ - a') := by
        rw [hd, List.take_append_of_le_length (by omega)]
      rw [uintR_none (by rw [e]; exact dec_short hu (by omega))]
      exact .inl rfl
def encT (s : ByteArray) : List UInt8 := enc s.size ++ s.data.toList
theorem size_list (s : ByteArray) : s.data.toList.length = s.size := by rw [Array.length_toList]; rfl
theorem text_whole {s : ByteArray} {most : Nat} (hs : s.size ≤ most) (hu : s.size < 18446744073709551616) (hf : full.drop a = encT s ++ rest) : textS full a 0 most = (s.data.toList, a + (encT s).length, 0) := by
  unfold textS
  have hd : dec 0 0 (full.drop a) = some (s.size, (enc s.size).length) := by rw [hf]; unfold encT; rw [List.append_assoc]; exact dec_enc _ hu _
  rw [if_pos rfl, textR_ok hd (by rw [hf]; unfold encT; simp only [List.length_append, size_list]; omega), hf]
  unfold encT
  have e1 : (enc s.size ++ s.data.toList ++ rest).drop (enc s.size).length = s.data.toList ++ rest := by rw [List.append_assoc, List.drop_left]
  rw [e1, ← size_list, List.take_left, List.length_append, size_list]
theorem text_cut' {s : ByteArray} {most : Nat} (hs : s.size ≤ most) (hu : s.size < 18446744073709551616) (hf : full.drop a = encT s ++ rest) (h : Cut at_ a a' e') :
    Cut at_ (a + (encT s).length) (textS (full.take at_) a' e' most).2.1 (textS (full.take at_) a' e' most).2.2 := by
  rcases h with rfl | ⟨rfl, rfl, h⟩
  · left
    unfold textS
    rw [if_neg (by decide)]
  · have hd := cut_drop h _ hf
    by_cases hc : a' + (encT s).length ≤ at_
    · have e : (full.take at_).drop a' = encT s ++ rest.take (at_ - a' - (encT s).length) := by
        rw [hd, List.take_append, List.take_of_length_le (by omega)]
      rw [text_whole hs hu e]
      exact .inr ⟨rfl, rfl, hc⟩
    · have e : (full.take at_).drop a' = (encT s).take (at_ - a') := by
        rw [hd, List.take_append_of_le_length (by omega)]
      left
      unfold textS
      rw [if_pos rfl]
      have hn : textR ((full.take at_).drop a') most = none := by
        rw [e]
        have hlt : (encT s).length = (enc s.size).length + s.size := by unfold encT; rw [List.length_append, size_list]
        by_cases hh : (enc s.size).length ≤ at_ - a'
        · have e2 : (encT s).take (at_ - a') = enc s.size ++ s.data.toList.take (at_ - a' - (enc s.size).length) := by
            unfold encT
            rw [List.take_append, List.take_of_length_le hh]
          rw [e2]
          refine textR_no (dec_enc _ hu _) (.inr (.inr ?_))
          rw [List.length_append, List.length_take, size_list]
          omega
        · have e2 : (encT s).take (at_ - a') = (enc s.size).take (at_ - a') := by
            unfold encT
            rw [List.take_append_of_le_length (by omega)]
          rw [e2]
          exact textR_none (dec_short hu (by omega))
      rw [hn]
end
/-- what is put, so far. -/
def gone {α : Type} (f : α → List UInt8) (l : List α) (k : Nat) : List UInt8 := (l.take k).flatMap f
theorem gone_zero {α : Type} (f : α → List UInt8) (l : List α) : gone f l 0 = [] := rfl
theorem gone_succ {α : Type} (f : α → List UInt8) (l : List α) {k : Nat} {x : α} (h : l[k]? = some x) : gone f l (k + 1) = gone f l k ++ f x := by
  obtain ⟨hl, rfl⟩ := List.getElem?_eq_some_iff.1 h
  unfold gone
  rw [List.take_succ_eq_append_getElem hl, List.flatMap_append]
  simp
theorem gone_all {α : Type} (f : α → List UInt8) (l : List α) {k : Nat} (h : l.length ≤ k) : gone f l k = l.flatMap f := by
  unfold gone
  rw [List.take_of_length_le h]
theorem gone_split {α : Type} (f : α → List UInt8) (l : List α) {k : Nat} {x : α} (h : l[k]? = some x) : l.flatMap f = gone f l k ++ (f x ++ (l.drop (k + 1)).flatMap f) := by
  obtain ⟨hl, rfl⟩ := List.getElem?_eq_some_iff.1 h
  unfold gone
  have : l = l.take k ++ (l[k] :: l.drop (k + 1)) := by rw [← List.drop_eq_getElem_cons hl, List.take_append_drop]
  conv => lhs; rw [this]
  rw [List.flatMap_append, List.flatMap_cons]
theorem gone_len {α : Type} (f : α → List UInt8) (b : Nat) (l : List α) (h : ∀ x ∈ l, (f x).length ≤ b) (k : Nat) : (gone f l k).length ≤ l.length * b := by
  unfold gone
  have : ∀ l : List α, (∀ x ∈ l, (f x).length ≤ b) → (l.flatMap f).length ≤ l.length * b := by
    intro l
    induction l with
    | nil => intro _; simp
    | cons x r ih =>
      intro h
      rw [List.flatMap_cons, List.length_append, List.length_cons, Nat.add_mul, Nat.one_mul]
      have h1 := h x (by simp)
      have h2 := ih (fun y hy => h y (by simp [hy]))
      omega
  have h1 := this (l.take k) (fun x hx => h x (List.mem_of_mem_take hx))
  have h2 : (l.take k).length ≤ l.length := by rw [List.length_take]; omega
  exact Nat.le_trans h1 (Nat.mul_le_mul_right _ h2)
end Go.Proofs.Ytpcoadbbngmpbaa
