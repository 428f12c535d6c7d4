/- Rows of bytes of the call's own. -/
import Derived.Test.YthbgcmffpnmbeaaVfAw
namespace Go.Proofs.Ythbgcmffpnmbeaa
set_option linter.unusedVariables false
set_option linter.unusedSimpArgs false
open Go.RowKit Go.Maps

theorem Try.infoBy : ∃ i z, Try.prog.info? 35 = some i ∧ i.zero = some z ∧ i.size = 1 ∧ i.bytes = 24 ∧ z.cells.size = 1 := by
  have h : (Try.prog.info? 35).map (fun i => (i.zero.map (fun z => z.cells.size), i.size, i.bytes)) = some (some 1, 1, 24) := by kernel_rfl
  cases hi : Try.prog.info? 35 with
  | none => rw [hi] at h; cases h
  | some i =>
    rw [hi] at h
    cases hz : i.zero with
    | none => simp [hz] at h
    | some z =>
      simp [hz] at h
      exact ⟨i, z, rfl, hz, h.2.1, h.2.2, h.1⟩
def Bys (w : World) (base : Nat) (v : Value) (bss : List (List UInt8)) : Prop :=
  ∃ vs : List Value, Own w base 35 1 v bss.length vs ∧ ∀ (j : Nat) (bs : List UInt8) (u : Value), bss[j]? = some bs → vs[j]? = some u → Own w base 5 1 u bs.length (by8 bs)
section
variable {w w' : World} {base n : Nat} {v v' u : Value} {bss : List (List UInt8)} {bs : List UInt8} {vs : List Value}
theorem Bys.nil (w : World) (base : Nat) : Bys w base (.slice none 0 0) [] := ⟨[], Own.nil _ _ _ _, fun j bs u h => by simp at h⟩
theorem Bys.fr0 (h : Bys w base v bss) (f : Fr No w w') : Bys w' base v bss := by
  obtain ⟨vs, ho, hc⟩ := h
  exact ⟨vs, ho.fr0 f, fun j bs u h1 h2 => (hc j bs u h1 h2).fr0 f⟩
theorem Bys.fr {T : Nat → Prop} (h : Bys w base v bss) (f : Fr T w w') (hT : ∀ k, base ≤ k → ¬ T k) : Bys w' base v bss := by
  obtain ⟨vs, ho, hc⟩ := h
  exact ⟨vs, ho.fr f fun g hg => hT g (ho.lt g hg).1, fun j bs u h1 h2 => (hc j bs u h1 h2).fr f fun g hg => hT g ((hc j bs u h1 h2).lt g hg).1⟩
theorem Bys.fr2 {T : Nat → Prop} (h : Bys w base v bss) (f : Fr T w w') (hT : ∀ k, base ≤ k → k < w.heap.size → ¬ T k) : Bys w' base v bss := by
  obtain ⟨vs, ho, hc⟩ := h
  exact ⟨vs, ho.fr f fun g hg => hT g (ho.lt g hg).1 (ho.lt g hg).2, fun j bs u h1 h2 => (hc j bs u h1 h2).fr f fun g hg => hT g ((hc j bs u h1 h2).lt g hg).1 ((hc j bs u h1 h2).lt g hg).2⟩
theorem Bys.snoc (ho : Own w base 35 1 v n vs) (hl : bss.length = n) (hc : ∀ (j : Nat) (bs : List UInt8) (u : Value), bss[j]? = some bs → vs[j]? = some u → Own w base 5 1 u bs.length (by8 bs)) (hu : Own w base 5 1 u bs.length (by8 bs))
    (ho' : Own w' base 35 1 v' (n + 1) (vs ++ [u])) (fr : Fr (fun k => v.ownBlock = some k) w w') : Bys w' base v' (bss ++ [bs]) := by
  have hvl : vs.length = n := by have := ho.1; omega
  have hk := OfK.own ho
  refine ⟨vs ++ [u], by rw [List.length_append, List.length_singleton, hl]; exact ho', fun j b x hb hx => ?_⟩
  by_cases hj : j < n
  · rw [List.getElem?_append_left (by omega)] at hb hx
    exact own_frK (hc j b x hb hx) fr hk (by simp)
  · have hj2 := (List.getElem?_eq_some_iff.1 hb).1
    rw [List.length_append, List.length_singleton] at hj2
    obtain rfl : j = n := by omega
    rw [List.getElem?_append_right (by omega)] at hb hx
    rw [show j - bss.length = 0 by omega] at hb
    rw [show j - vs.length = 0 by omega] at hx
    obtain rfl : bs = b := by simpa using hb
    obtain rfl : u = x := by simpa using hx
    exact own_frK hu fr hk (by simp)
theorem Bys.bsl {A : Option Addr} {c : Nat} (h : Bys w base (.slice A n c) bss) (hl : bss.length = n) : BSl w w.heap.size A bss := by
  obtain ⟨vs, ho, hc⟩ := h
  rw [hl] at ho
  have hvl : vs.length = n := by have := ho.1; omega
  intro j bs hj
  have hjn : j < vs.length := by have := (List.getElem?_eq_some_iff.1 hj).1; omega
  obtain ⟨Aj, cj, e, h1, h2, _, h3, _⟩ := (hc j bs _ hj (List.getElem?_eq_getElem hjn)).form
  obtain ⟨ad, ea, hb, hcell⟩ := ho.rd j _ (List.getElem?_eq_getElem hjn)
  rw [e] at hcell
  exact ⟨ad, Aj, cj, ea, hb, hcell, h1, h2, h3⟩
end
/-- how many names a directory has. -/
theorem Fsh.count {w0 w : World} {d N : Nat} {S : Di} {ks : List Tx} (h : Fsh w0 w d S N) (hk : KeysL S.now ks) : ks.length ≤ N := by
  obtain ⟨Z, ⟨p, hd⟩, hz, hf⟩ := h
  obtain ⟨n, D, hn, hm⟩ := hd.now
  have h1 := hk.size.uniq hm.size
  have h2 := hm.own.size_le
  omega
end Go.Proofs.Ythbgcmffpnmbeaa
