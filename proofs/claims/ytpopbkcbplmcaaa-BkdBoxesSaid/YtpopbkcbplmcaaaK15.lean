/- Several texts in one: BkBp. -/
import Derived.Test.YtpopbkcbplmcaaaK14
namespace Go.Proofs.Ytpopbkcbplmcaaa
set_option linter.unusedVariables false
set_option linter.unusedSimpArgs false
open Go.RowKit

theorem bounds_box {m : Nat} {l : List Pt} (hm : mayP (m : Int) l) (hne : l ≠ []) : boxP m l (lowsB m l) (highsB m l) = l := by
  unfold boxP
  rw [if_pos ⟨lowsB_len hne, highsB_len hne⟩]
  refine List.filter_eq_self.2 (fun p hp => ?_)
  rw [inB_iff]
  intro d hd
  have hpl : p.2.length = m := by have := (hm.2.2.2 p hp).1; omega
  rw [hpl] at hd
  unfold lowsB highsB
  rw [if_neg hne, if_neg hne, getD_range hd, getD_range hd]
  exact ⟨lowP_mem_le d l _ p hp, highP_mem_ge d l _ p hp⟩
theorem inB_left {m dim : Nat} {cut : Int} {low high : List Int} {p : Pt} (hp : p.2.length = m) (hl : high.length = m) (hd : dim < m) (hc : cut < high.getD dim 0) : inB low (high.set dim cut) p = (inB low high p && decide (p.2.getD dim 0 ≤ cut)) := by
  rw [Bool.eq_iff_iff, Bool.and_eq_true, inB_iff, inB_iff, decide_eq_true_eq, hp]
  constructor
  · intro h
    have h1 := h dim hd
    rw [set_getD_self (by omega)] at h1
    refine ⟨fun d hdm => ?_, h1.2⟩
    by_cases e : d = dim
    · subst e; exact ⟨h1.1, by omega⟩
    · have := h d hdm; rw [set_getD_ne e] at this; exact this
  · rintro ⟨h, hcut⟩ d hdm
    by_cases e : d = dim
    · subst e; rw [set_getD_self (by omega)]; exact ⟨(h d hdm).1, hcut⟩
    · rw [set_getD_ne e]; exact h d hdm
theorem inB_right {m dim : Nat} {cut : Int} {low high : List Int} {p : Pt} (hp : p.2.length = m) (hl : low.length = m) (hd : dim < m) (hc : low.getD dim 0 ≤ cut) : inB (low.set dim (cut + 1)) high p = (inB low high p && !decide (p.2.getD dim 0 ≤ cut)) := by
  rw [Bool.eq_iff_iff, Bool.and_eq_true, inB_iff, inB_iff, Bool.not_eq_true', decide_eq_false_iff_not, hp]
  constructor
  · intro h
    have h1 := h dim hd
    rw [set_getD_self (by omega)] at h1
    refine ⟨fun d hdm => ?_, by omega⟩
    by_cases e : d = dim
    · subst e; exact ⟨by omega, h1.2⟩
    · have := h d hdm; rw [set_getD_ne e] at this; exact this
  · rintro ⟨h, hcut⟩ d hdm
    by_cases e : d = dim
    · subst e; rw [set_getD_self (by omega)]; exact ⟨by omega, (h d hdm).2⟩
    · rw [set_getD_ne e]; exact h d hdm
section
variable {m dim : Nat} {cut : Int} {low high : List Int} {l : List Pt}
theorem cut_left (hm : mayP (m : Int) l) (hl1 : low.length = m) (hl2 : high.length = m) (hd : dim < m) (hc1 : low.getD dim 0 ≤ cut) (hc2 : cut < high.getD dim 0) : boxP m l low (high.set dim cut) = (boxP m l low high).filter (fun p => decide (p.2.getD dim 0 ≤ cut)) := by
  unfold boxP
  rw [if_pos ⟨hl1, by rw [List.length_set]; exact hl2⟩, if_pos ⟨hl1, hl2⟩, List.filter_filter]
  refine List.filter_congr fun p hp => ?_
  rw [inB_left (m := m) (by have := (hm.2.2.2 p hp).1; omega) hl2 hd hc2, Bool.and_comm]
theorem cut_right (hm : mayP (m : Int) l) (hl1 : low.length = m) (hl2 : high.length = m) (hd : dim < m) (hc1 : low.getD dim 0 ≤ cut) (hc2 : cut < high.getD dim 0) : boxP m l (low.set dim (cut + 1)) high = (boxP m l low high).filter (fun p => !decide (p.2.getD dim 0 ≤ cut)) := by
  unfold boxP
  rw [if_pos ⟨by rw [List.length_set]; exact hl1, hl2⟩, if_pos ⟨hl1, hl2⟩, List.filter_filter]
  refine List.filter_congr fun p hp => ?_
  rw [inB_right (m := m) (by have := (hm.2.2.2 p hp).1; omega) hl1 hd hc1, Bool.and_comm]
theorem filt_two (f : Pt → Bool) : ∀ l : List Pt, (l.filter f).length + (l.filter (fun p => !f p)).length = l.length
  | [] => rfl
  | p :: r => by
    have ih := filt_two f r
    cases h : f p <;> simp [List.filter, h] <;> omega
theorem cut_len (hm : mayP (m : Int) l) (hl1 : low.length = m) (hl2 : high.length = m) (hd : dim < m) (hc1 : low.getD dim 0 ≤ cut) (hc2 : cut < high.getD dim 0) : (boxP m l low (high.set dim cut)).length + (boxP m l (low.set dim (cut + 1)) high).length = (boxP m l low high).length := by
  rw [cut_left hm hl1 hl2 hd hc1 hc2, cut_right hm hl1 hl2 hd hc1 hc2, filt_two]
theorem cut_mem (hm : mayP (m : Int) l) (hl1 : low.length = m) (hl2 : high.length = m) (hd : dim < m) (hc1 : low.getD dim 0 ≤ cut) (hc2 : cut < high.getD dim 0) (t : Int) : t ∈ rngZ m l low high ↔ t ∈ rngZ m l low (high.set dim cut) ++ rngZ m l (low.set dim (cut + 1)) high := by
  unfold rngZ
  rw [List.mem_append, setZ_mem, setZ_mem, setZ_mem, cut_left hm hl1 hl2 hd hc1 hc2, cut_right hm hl1 hl2 hd hc1 hc2]
  simp only [List.mem_map, List.mem_filter, decide_eq_true_eq, Bool.not_eq_true', decide_eq_false_iff_not]
  constructor
  · rintro ⟨p, hp, rfl⟩
    by_cases h : p.2.getD dim 0 ≤ cut
    · exact .inl ⟨p, ⟨hp, h⟩, rfl⟩
    · exact .inr ⟨p, ⟨hp, h⟩, rfl⟩
  · rintro (⟨p, ⟨hp, _⟩, rfl⟩ | ⟨p, ⟨hp, _⟩, rfl⟩)
    · exact ⟨p, hp, rfl⟩
    · exact ⟨p, hp, rfl⟩
theorem rngZ_len : (rngZ m l low high).length ≤ l.length := by
  have h1 : (rngZ m l low high).length ≤ (sortZ ((boxP m l low high).map (·.1))).length := compactZ_le _
  rw [sortZ_len, List.length_map] at h1
  exact Nat.le_trans h1 boxP_len
end
theorem ltZ_get {l : List Int} (h : ltZ l) {i : Nat} (hi : i + 1 < l.length) : l.getD i 0 < l.getD (i + 1) 0 := by
  have := List.pairwise_iff_getElem.1 h i (i + 1) (by omega) hi (by omega)
  simp [List.getD, List.getElem?_eq_getElem (show i < l.length by omega), List.getElem?_eq_getElem hi]
  exact this
/-- is a number among the first k? -/
def hasZ (l : List Int) (x : Int) (k : Nat) : Bool := (l.take k).any fun y => y == x
theorem hasZ_zero (l : List Int) (x : Int) : hasZ l x 0 = false := by simp [hasZ]
theorem hasZ_succ {l : List Int} {x : Int} {k : Nat} (h : k < l.length) : hasZ l x (k + 1) = (hasZ l x k || (l.getD k 0 == x)) := by
  unfold hasZ
  rw [take_getD0 (0 : Int) h, List.any_append]
  simp
theorem hasZ_all {l : List Int} {x : Int} (h : x ∈ l) : hasZ l x l.length = true := by
  unfold hasZ
  rw [List.take_length, List.any_eq_true]
  exact ⟨x, h, by simp⟩
theorem getD_memZ {l : List Int} {i : Nat} (h : i < l.length) : l.getD i 0 ∈ l := by
  rw [List.getD, List.getElem?_eq_getElem h]; exact List.getElem_mem _
end Go.Proofs.Ytpopbkcbplmcaaa
