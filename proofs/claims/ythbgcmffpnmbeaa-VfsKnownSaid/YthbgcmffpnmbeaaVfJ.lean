/- A change is made, and kept as one. -/
import Derived.Test.YthbgcmffpnmbeaaVfH
namespace Go.Proofs.Ythbgcmffpnmbeaa
set_option linter.unusedVariables false
set_option linter.unusedSimpArgs false
open Go.RowKit Go.Maps

/-- A directory goes on. -/
def Step (w w' : World) (Z : Nat → Prop) (d : Nat) (S : Di) (N : Nat) : Prop := ∃ Z', DirM w' Z' d S N ∧ Fr Z w w' ∧ (∀ k, Z k → Z' k) ∧ ∀ k, Z' k → Z k ∨ w.heap.size ≤ k
section
variable {w w' w'' : World} {Z Z' T : Nat → Prop} {d N N' : Nat} {S S' : Di} {p : Ph} {κ : Option TypeId → Prop}
theorem Step.refl (h : DirM w Z d S N) : Step w w Z d S N := ⟨Z, h, Fr.refl _ _, fun _ h => h, fun _ h => .inl h⟩
theorem Step.of (h : DirP w' Z d S N p) (f : Fr Z w w') : Step w w' Z d S N := ⟨Z, ⟨p, h⟩, f, fun _ h => h, fun _ h => .inl h⟩
theorem Step.ahead (f : Fr Z w w') (h : Step w' w'' Z d S N) : Step w w'' Z d S N := by
  obtain ⟨Z', h1, f1, z1, z2⟩ := h
  exact ⟨Z', h1, f.ts f1, z1, fun k hk => (z2 k hk).imp id fun h => Nat.le_trans f.size h⟩
theorem Step.behind (h : Step w w' Z d S N) (f : Fr No w' w'') : Step w w'' Z d S N := by
  obtain ⟨Z', h1, f1, z1, z2⟩ := h
  exact ⟨Z', h1.fr0 f, f1.tr f, z1, z2⟩
theorem Step.mono (h : Step w w' Z d S N) (hN : N ≤ N') : Step w w' Z d S N' := by
  obtain ⟨Z', ⟨p, h1⟩, f1, z1, z2⟩ := h
  exact ⟨Z', ⟨p, h1.mono hN⟩, f1, z1, z2⟩
theorem Fr.isZ {g : Nat} (f : Fr (Is g) w w') (h : Z g) : Fr Z w w' := f.mono fun i _ hi => by have e : i = g := hi; subst e; exact h
/-- The directory's names are others. -/
theorem DirP.nowW (h : DirP w Z d S N p) (fr : Fr (Is p.nb) w w') {m' : Ents} (hm : ∃ n D, n ≤ N' ∧ MapM w' p.nb n m' D) (hN : N ≤ N') (hf : ∀ k f, m' k = some f → (S.fs f).isSome = true) :
    DirP w' Z d { S with now := m' } N' p := by
  obtain ⟨n1, D1, a1, m1⟩ := h.now
  obtain ⟨es, clock, hb⟩ := m1.isMap
  have hk := OfK.is hb
  obtain ⟨n2, D2, a2, m2⟩ := h.dur
  obtain ⟨vs, o1, c1⟩ := h.chs
  exact ⟨blk_frK h.dir fr hk (by simp [kd]), hm, ⟨n2, D2, by show n2 + S.chs.length ≤ N'; omega, m2.fr fr (fun e => h.ne e.symm)⟩, h.ne,
    ⟨vs, own_frK o1 fr hk (by simp [kd]), fun j c v hc hv => (c1 j c v hc hv).frK fr hk (by simp [kd]) (by simp [kd]) (fun _ h => h)⟩,
    fun g x hx => ⟨(h.files g x hx).1.frK fr hk (by simp [kd]) (by simp [kd]), (h.files g x hx).2⟩, h.apart, hf, h.durf, h.chf, h.zd, h.znb, h.zmb, h.zcv, fun k hk => Nat.lt_of_lt_of_le (h.lt k hk) fr.size, Nat.le_trans h.calls hN⟩
/-- One change more is kept. -/
theorem DirP.chW (h : DirP w Z d S N p) {vs : List Value} {c : Ch} {v v' : Value} (ho : Own w 0 86 1 p.cv S.chs.length vs) (hc : ∀ (i : Nat) (c : Ch) (v : Value), S.chs[i]? = some c → vs[i]? = some v → ChV w Z c v)
    (fr : Fr (fun k => p.cv.ownBlock = some k) w w') (ho' : Own w' 0 86 1 v' (S.chs.length + 1) (vs ++ [v])) (hl : v'.ownBlock = p.cv.ownBlock ∨ v'.ownBlock = some w.heap.size) (hcv : ChV w Z c v)
    (hf : ∀ f, c.file = some f → (S.fs f).isSome = true) :
    Step w (w'.setCell ⟨d, 2, none⟩ v') Z d { S with chs := S.chs ++ [c] } (N + 1) := by
  have hk := OfK.own ho
  have hd' := blk_frK h.dir fr hk (by simp [kd])
  have fr2 : Fr (Is d) w' (w'.setCell ⟨d, 2, none⟩ v') := (Fr.refl _ _).put 2 v'
  have hk2 := OfK.is hd'
  obtain ⟨n1, D1, a1, m1⟩ := h.now
  obtain ⟨n2, D2, a2, m2⟩ := h.dur
  have frZ : Fr Z w w' := fr.mono fun i _ hi => h.zcv i hi
  have fr3 : Fr Z w (w'.setCell ⟨d, 2, none⟩ v') := frZ.ts (fr2.isZ h.zd)
  have hvl : vs.length = S.chs.length := by have := ho.1; omega
  refine ⟨fun k => Z k ∨ v'.ownBlock = some k, ⟨{ p with cv := v' }, ?_⟩, fr3, fun _ h => .inl h, fun k hk => ?_⟩
  · refine ⟨?_, ⟨n1, D1, by omega, (m1.frK fr hk (by simp)).frK fr2 hk2 (by simp [kd])⟩, ⟨n2, D2, by show n2 + (S.chs ++ [c]).length ≤ N + 1; rw [List.length_append, List.length_singleton]; omega, (m2.frK fr hk (by simp)).frK fr2 hk2 (by simp [kd])⟩, h.ne,
      ⟨vs ++ [v], by show Own _ _ _ _ v' (S.chs ++ [c]).length _; rw [List.length_append, List.length_singleton]; exact own_frK ho' fr2 hk2 (by simp [kd]), fun j c' u hj hu => ?_⟩,
      fun g x hx => ⟨((h.files g x hx).1.frK fr hk (by simp) (by simp)).frK fr2 hk2 (by simp [kd]) (by simp [kd]), .inl (h.files g x hx).2.1, fun k hk => .inl ((h.files g x hx).2.2 k hk)⟩, h.apart, h.nowf, h.durf, fun c' hc' => ?_,
      .inl h.zd, .inl h.znb, .inl h.zmb, fun k hk => .inr hk, fun k hk => ?_, by have := h.calls; show S.calls ≤ N + 1; omega⟩
    · rw [heap_setCell_same w' d 2 (dirC p S) _ v' hd']
      rfl
    · have hcv' : ∀ {c : Ch} {v : Value}, ChV w Z c v → ChV (w'.setCell ⟨d, 2, none⟩ v') (fun k => Z k ∨ v'.ownBlock = some k) c v := fun h0 =>
        (h0.frK fr hk (by simp) (by simp) (fun _ h => h)).frK fr2 hk2 (by simp [kd]) (by simp [kd]) (fun _ h => .inl h)
      by_cases hj' : j < S.chs.length
      · rw [show (S.chs ++ [c])[j]? = S.chs[j]? from List.getElem?_append_left hj'] at hj
        rw [List.getElem?_append_left (by omega)] at hu
        exact hcv' (hc j c' u hj hu)
      · have hj2 : j < (S.chs ++ [c]).length := (List.getElem?_eq_some_iff.1 hj).1
        rw [List.length_append, List.length_singleton] at hj2
        obtain rfl : j = S.chs.length := by omega
        rw [show (S.chs ++ [c])[S.chs.length]? = some c by simp] at hj
        rw [List.getElem?_append_right (by omega), hvl] at hu
        simp at hu
        obtain rfl := Option.some.inj hj
        subst hu
        exact hcv' hcv
    · rcases List.mem_append.1 hc' with hc' | hc'
      · exact h.chf c' hc'
      · rw [List.mem_singleton.1 hc']; exact hf
    · rcases hk with hk | hk
      · exact Nat.lt_of_lt_of_le (h.lt k hk) fr3.size
      · exact Nat.lt_of_lt_of_le (ho'.lt k hk).2 fr2.size
  · rcases hk with hk | hk
    · exact .inl hk
    · rcases hl with e | e
      · exact .inl (h.zcv k (by rw [← e]; exact hk))
      · rw [e] at hk
        exact .inr (Nat.le_of_eq (Option.some.inj hk))
end

/-- a change's own function, called. -/
theorem chg_any {w : World} {Z : Nat → Prop} {b n : Nat} {m : Ents} {D : DataW Empty} {c : Ch} {v : Value} (hv : ChV w Z c v) (hm : MapM w b n m D) (hn : n < maxLen) (hF : ∀ g, c.file = some g ∨ (∃ k, m k = some g) → ∃ cs ta, w.heap[g]? = some (.cells cs ta (0, 0))) :
    (∃ b1 b2, v = .func (.func 68) #[] #[bx b1, bx b2] ∧ Calls Try.prog 68 #[.map (some b), bx b1, bx b2] w (RetM w b (n + 1) (c.app m))) ∨
    (∃ b1 b2 b3, v = .func (.func 69) #[] #[bx b1, bx b2, bx b3] ∧ Calls Try.prog 69 #[.map (some b), bx b1, bx b2, bx b3] w (RetM w b (n + 1) (c.app m))) ∨
    (∃ b1, v = .func (.func 70) #[] #[bx b1] ∧ Calls Try.prog 70 #[.map (some b), bx b1] w (RetM w b (n + 1) (c.app m))) := by
  cases c with
  | put t f => obtain ⟨b1, b2, e, f1, t1⟩ := hv; exact .inl ⟨b1, b2, e, put_any hm hn f1 t1⟩
  | ren s t f =>
    obtain ⟨b1, b2, b3, e, t1, f1, t2⟩ := hv
    refine .inr (.inl ⟨b1, b2, b3, e, ren_any hm hn t1 f1 t2 fun g hg => hF g ?_⟩)
    rcases hg with rfl | hg
    · exact .inl rfl
    · exact .inr ⟨s, hg⟩
  | del t =>
    obtain ⟨b1, e, t1⟩ := hv
    exact .inr (.inr ⟨b1, e, (del_any hm t1).mono fun en w' ⟨h1, ⟨D', h2⟩, h3⟩ => ⟨h1, ⟨D', h2.mono (by omega)⟩, h3⟩⟩)
end Go.Proofs.Ythbgcmffpnmbeaa
