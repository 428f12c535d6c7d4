/- Crash's choices, one after another. -/
import Derived.Test.YthbgcmffpnmbeaaVfF
import Derived.Test.YthbgcmffpnmbeaaInts
namespace Go.Proofs.Ythbgcmffpnmbeaa
set_option linter.unusedVariables false
set_option linter.unusedSimpArgs false
open Go.RowKit Go.Maps

/-- the choices that are left, in a box. -/
structure BoxC (w : World) (cb : Nat) (l : List Int) (A : Option Addr) (n c B : Nat) : Prop where
  cell : w.heap[cb]? = some (.cells #[.slice A n c] 23 (0, 0))
  len : l.length = n
  le : n ≤ c
  most : c ≤ maxLen
  rd : Rd w B A (iz .i64 l)
  lt : B ≤ cb
  wf : ∀ z ∈ l, -9223372036854775808 ≤ z ∧ z ≤ 9223372036854775807
theorem BoxC.fr {S : Nat → Prop} {w w' : World} {cb : Nat} {l : List Int} {A : Option Addr} {n c B : Nat} (h : BoxC w cb l A n c B) (f : Fr S w w') (h1 : ¬ S cb) (h2 : ∀ k, k < B → ¬ S k) : BoxC w' cb l A n c B :=
  ⟨f.blk h.cell h1, h.len, h.le, h.most, h.rd.fr f h2, h.lt, h.wf⟩
theorem hdC_cons (z : Int) (r : List Int) : hdC (z :: r) = if z = -9223372036854775808 then 0 else z.natAbs := rfl
theorem hdC_neg {z : Int} (r : List Int) (h : z < 0) (hw : -9223372036854775808 ≤ z ∧ z ≤ 9223372036854775807) : max (wrap64 (-z)) 0 = ((hdC (z :: r) : Nat) : Int) := by
  rw [hdC_cons]
  by_cases hm : z = -9223372036854775808
  · have e : wrap64 (- -9223372036854775808) = -9223372036854775808 := by unfold wrap64; omega
    rw [if_pos hm, hm, e]; rfl
  · have e : wrap64 (-z) = -z := by unfold wrap64; omega
    rw [if_neg hm, e, Int.max_eq_left (by omega)]
    omega
theorem hdC_pos {z : Int} (r : List Int) (h : ¬ z < 0) : z = ((hdC (z :: r) : Nat) : Int) := by
  rw [hdC_cons, if_neg (by omega)]
  omega
/-- What the next choice answers. -/
def RetX (w : World) (cb : Nat) (l : List Int) (B : Nat) (en : Ending) (w' : World) : Prop :=
  en = .returned (.int .i64 (hdC l : Nat)) ∧ (∃ A' n' c', BoxC w' cb l.tail A' n' c' B) ∧ Fr (Is cb) w w'
theorem BoxC.next {w : World} {cb : Nat} {z : Int} {r : List Int} {ad : Addr} {n c B : Nat} (h : BoxC w cb (z :: r) (some ad) n c B) (A' : Option Addr) (hA : A' = if c = 1 then some ad else (some ad).map (·.add 1)) :
    BoxC (w.setCell ⟨cb, 0, none⟩ (.slice A' (n - 1) (c - 1))) cb r A' (n - 1) (c - 1) B ∧ Fr (Is cb) w (w.setCell ⟨cb, 0, none⟩ (.slice A' (n - 1) (c - 1))) := by
  have fr : Fr (Is cb) w (w.setCell ⟨cb, 0, none⟩ (.slice A' (n - 1) (c - 1))) := (Fr.refl _ _).put 0 _
  have hl : r.length + 1 = n := h.len
  have hle := h.le
  have hm := h.most
  have hrd : Rd w B A' (iz .i64 r) := by
    have := h.rd.cut (k := 1) (cap := c) (by rw [iz_len]; show r.length + 1 ≤ c; omega)
    rw [hA]
    exact this
  refine ⟨⟨?_, by omega, by omega, by omega, hrd.fr fr fun k hk hh => ?_, h.lt, fun y hy => h.wf y (.tail _ hy)⟩, fr⟩
  · rw [heap_setCell_same w cb 0 _ _ _ h.cell]; rfl
  · have e' : k = cb := hh
    have := h.lt
    omega
set_option maxRecDepth 100000 in
set_option maxHeartbeats 800000 in
theorem next_any (w : World) (cb : Nat) (l : List Int) (A : Option Addr) (n c B : Nat) (h : BoxC w cb l A n c B) :
    Calls Try.prog 45 #[.pointer (some ⟨cb, 0, none⟩)] w (RetX w cb l B) := by
  have c0 : w.cell? ⟨cb, 0, none⟩ = some (.slice A n c) := by rw [cell_of_row w cb 0 _ _ _ h.cell]; rfl
  have g0 := frozen_of_row w cb 0 _ _ h.cell
  have hn := h.len
  have hle := h.le
  have hm := h.most
  unfold maxLen at hm
  cases l with
  | nil =>
    have hn0 : n = 0 := by simpa using hn.symm
    subst hn0
    have HH := hide h
    clear h
    go_enter Try.func45, Try.ntmps45
    go_wp2
    go_ret
    exact ⟨rfl, ⟨A, 0, c, HH.out⟩, Fr.refl _ _⟩
  | cons z r =>
    have hn1 : n = r.length + 1 := by simpa using hn.symm
    have hwf := h.wf z (.head _)
    obtain ⟨ad, rfl, _, hz⟩ := h.rd.intAt (j := 0) (by simp)
    rw [Addr.add_zero'] at hz
    have hz' : w.cell? ad = some (.int .i64 z) := by simpa using hz
    have hne : ad.block ≠ cb := by
      obtain ⟨ad', e, hb, _⟩ := h.rd 0 _ rfl
      have := h.lt
      rw [Option.some.inj e]
      omega
    have HH := hide h
    have HA := hide hn
    subst hn1
    clear h hz hn
    have e1 : ((r.length + 1 : Nat) : Int) = (r.length : Int) + 1 := by omega
    by_cases hc1 : c = 1
    · subst hc1
      obtain rfl : r = [] := List.length_eq_zero_iff.1 (by omega)
      by_cases hneg : z < 0
      · have d1 : decide (z < 0) = true := decide_eq_true hneg
        have hv := hide (hdC_neg [] hneg hwf)
        go_enter Try.func45, Try.ntmps45
        go_wp2
        go_ret
        obtain ⟨h1, h3⟩ := HH.out.next (some ad) (by simp)
        exact ⟨by rw [← hv.out]; rfl, ⟨_, _, _, h1⟩, h3⟩
      · have d1 : decide (z < 0) = false := decide_eq_false hneg
        have hv := hide (hdC_pos [] hneg)
        go_enter Try.func45, Try.ntmps45
        go_wp2
        go_ret
        obtain ⟨h1, h3⟩ := HH.out.next (some ad) (by simp)
        exact ⟨by rw [← hv.out]; rfl, ⟨_, _, _, h1⟩, h3⟩
    · by_cases hneg : z < 0
      · have d1 : decide (z < 0) = true := decide_eq_true hneg
        have hv := hide (hdC_neg r hneg hwf)
        go_enter Try.func45, Try.ntmps45
        go_wp2
        go_ret
        obtain ⟨h1, h3⟩ := HH.out.next (some (ad.add 1)) (by rw [if_neg hc1]; rfl)
        exact ⟨by rw [← hv.out]; rfl, ⟨_, _, _, h1⟩, h3⟩
      · have d1 : decide (z < 0) = false := decide_eq_false hneg
        have hv := hide (hdC_pos r hneg)
        go_enter Try.func45, Try.ntmps45
        go_wp2
        go_ret
        obtain ⟨h1, h3⟩ := HH.out.next (some (ad.add 1)) (by rw [if_neg hc1]; rfl)
        exact ⟨by rw [← hv.out]; rfl, ⟨_, _, _, h1⟩, h3⟩
end Go.Proofs.Ythbgcmffpnmbeaa
