/- A directory in memory: its parts, and what keeps them. -/
import Derived.Test.YthbgcmffpnmbeaaVfM
import Derived.Laws.Rows
namespace Go.Proofs.Ythbgcmffpnmbeaa
set_option linter.unusedVariables false
set_option linter.unusedSimpArgs false
open Go.RowKit Go.Maps

/-- what kind of block: a row's element type, or none (a map, say). -/
def kd : Obj → Option TypeId
  | .cells _ t _ => some t
  | _ => none
def OfK (w : World) (κ : Option TypeId → Prop) (T : Nat → Prop) : Prop := ∀ k o, T k → w.heap[k]? = some o → κ (kd o)
section
variable {w w' : World} {κ : Option TypeId → Prop} {T : Nat → Prop}
theorem blk_frK {k : Nat} {o : Obj} (h : w.heap[k]? = some o) (f : Fr T w w') (hk : OfK w κ T) (hn : ¬ κ (kd o)) : w'.heap[k]? = some o := f.blk h fun ht => hn (hk k o ht h)
theorem own_frK {base e size n : Nat} {v : Value} {xs : List Value} (h : Own w base e size v n xs) (f : Fr T w w') (hk : OfK w κ T) (hn : ¬ κ (some e)) : Own w' base e size v n xs := by
  refine h.fr f fun g hg ht => ?_
  obtain ⟨hl, A, c, rfl, hc, hm, hA⟩ := h
  rcases hA with ⟨rfl, _⟩ | ⟨g', cur, rfl, hb, hh, _⟩
  · simp [Value.ownBlock] at hg
  · obtain rfl : g' = g := Option.some.inj hg
    exact hn (hk _ _ ht hh)
theorem MapM.frK {b n : Nat} {m : Ents} {D : DataW Empty} (h : MapM w b n m D) (f : Fr T w w') (hk : OfK w κ T) (hn : ¬ κ none) : MapM w' b n m D := by
  obtain ⟨es, clock, hb⟩ := h.isMap
  exact h.fr f fun ht => hn (hk _ _ ht hb)
theorem OfK.is {g : Nat} {o : Obj} (h : w.heap[g]? = some o) : OfK w (fun x => x = kd o) (Is g) := fun k o' hk h' => by
  have e : k = g := hk
  subst e
  rw [h] at h'
  injection h' with h'
  rw [h']
theorem OfK.no (w : World) : OfK w (fun _ => False) No := fun k o h => h.elim
theorem OfK.own {base e size n : Nat} {v : Value} {xs : List Value} (h : Own w base e size v n xs) : OfK w (fun x => x = some e) (fun k => v.ownBlock = some k) := fun k o hk hh => by
  obtain ⟨hl, A, c, rfl, hc, hm, hA⟩ := h
  rcases hA with ⟨rfl, _⟩ | ⟨g', cur, rfl, hb, hg, _⟩
  · simp [Value.ownBlock] at hk
  · obtain rfl : g' = k := Option.some.inj hk
    rw [hg] at hh
    injection hh with hh
    rw [← hh]; rfl
end

structure Ph where
  nb : Nat
  mb : Nat
  cv : Value
  fv : Nat → Value
def dirC (p : Ph) (S : Di) : Array Value :=
  #[.map (some p.nb), .map (some p.mb), p.cv, .int .i64 (S.calls : Nat), .int .i64 S.halt, .int .i64 S.at_, .int .i64 S.e, .int .i64 S.part]
def bx (b : Nat) : Value := .pointer (some ⟨b, 0, none⟩)
/-- a file in memory. -/
structure FiM (w : World) (f : Nat) (v : Value) (x : Fi) : Prop where
  cell : w.heap[f]? = some (.cells #[v, .int .i64 (x.s : Nat)] 83 (0, 0))
  own : Own w 0 5 1 v x.b.length (by8 x.b)
  le : x.s ≤ x.b.length
  most : x.b.length ≤ 16777216
def BoxT (w : World) (Z : Nat → Prop) (b : Nat) (t : Tx) : Prop := w.heap[b]? = some (.cells #[sv t] 9 (0, 0)) ∧ Z b ∧ t.length ≤ maxLen
def BoxF (w : World) (Z : Nat → Prop) (b : Nat) (f : Nat) : Prop := w.heap[b]? = some (.cells #[fpt f] 79 (0, 0)) ∧ Z b
/-- a change in memory: a function with what it has captured. -/
def ChV (w : World) (Z : Nat → Prop) : Ch → Value → Prop
  | .put n f, v => ∃ b1 b2, v = .func (.func 68) #[] #[bx b1, bx b2] ∧ BoxF w Z b1 f ∧ BoxT w Z b2 n
  | .ren a b f, v => ∃ b1 b2 b3, v = .func (.func 69) #[] #[bx b1, bx b2, bx b3] ∧ BoxT w Z b1 a ∧ BoxF w Z b2 f ∧ BoxT w Z b3 b
  | .del n, v => ∃ b1, v = .func (.func 70) #[] #[bx b1] ∧ BoxT w Z b1 n
/-- a directory in memory. -/
structure DirP (w : World) (Z : Nat → Prop) (d : Nat) (S : Di) (N : Nat) (p : Ph) : Prop where
  dir : w.heap[d]? = some (.cells (dirC p S) 73 (0, 0))
  now : ∃ n D, n ≤ N ∧ MapM w p.nb n S.now D
  dur : ∃ n D, n + S.chs.length ≤ N ∧ MapM w p.mb n S.dur D
  ne : p.nb ≠ p.mb
  chs : ∃ vs : List Value, Own w 0 86 1 p.cv S.chs.length vs ∧ ∀ (i : Nat) (c : Ch) (v : Value), S.chs[i]? = some c → vs[i]? = some v → ChV w Z c v
  files : ∀ f x, S.fs f = some x → FiM w f (p.fv f) x ∧ Z f ∧ ∀ k, (p.fv f).ownBlock = some k → Z k
  apart : ∀ f g, f ≠ g → (S.fs f).isSome = true → (S.fs g).isSome = true → ∀ k, (p.fv f).ownBlock = some k → (p.fv g).ownBlock ≠ some k
  nowf : ∀ k f, S.now k = some f → (S.fs f).isSome = true
  durf : ∀ k f, S.dur k = some f → (S.fs f).isSome = true
  chf : ∀ c ∈ S.chs, ∀ f, c.file = some f → (S.fs f).isSome = true
  zd : Z d
  znb : Z p.nb
  zmb : Z p.mb
  zcv : ∀ k, p.cv.ownBlock = some k → Z k
  lt : ∀ k, Z k → k < w.heap.size
  calls : S.calls ≤ N
def DirM (w : World) (Z : Nat → Prop) (d : Nat) (S : Di) (N : Nat) : Prop := ∃ p, DirP w Z d S N p

section
variable {w w' : World} {Z Z' T : Nat → Prop} {d N : Nat} {S : Di} {p : Ph} {κ : Option TypeId → Prop}
theorem FiM.fr {f : Nat} {v : Value} {x : Fi} (h : FiM w f v x) (fr : Fr T w w') (h1 : ¬ T f) (h2 : ∀ k, v.ownBlock = some k → ¬ T k) : FiM w' f v x := ⟨fr.blk h.cell h1, h.own.fr fr h2, h.le, h.most⟩
theorem FiM.frK {f : Nat} {v : Value} {x : Fi} (h : FiM w f v x) (fr : Fr T w w') (hk : OfK w κ T) (h1 : ¬ κ (some 83)) (h2 : ¬ κ (some 5)) : FiM w' f v x := ⟨blk_frK h.cell fr hk h1, own_frK h.own fr hk h2, h.le, h.most⟩
theorem BoxT.frK {b : Nat} {t : Tx} (h : BoxT w Z b t) (fr : Fr T w w') (hk : OfK w κ T) (h1 : ¬ κ (some 9)) (hz : ∀ k, Z k → Z' k) : BoxT w' Z' b t := ⟨blk_frK h.1 fr hk h1, hz _ h.2.1, h.2.2⟩
theorem BoxF.frK {b f : Nat} (h : BoxF w Z b f) (fr : Fr T w w') (hk : OfK w κ T) (h1 : ¬ κ (some 79)) (hz : ∀ k, Z k → Z' k) : BoxF w' Z' b f := ⟨blk_frK h.1 fr hk h1, hz _ h.2⟩
theorem ChV.frK {c : Ch} {v : Value} (h : ChV w Z c v) (fr : Fr T w w') (hk : OfK w κ T) (h1 : ¬ κ (some 9)) (h2 : ¬ κ (some 79)) (hz : ∀ k, Z k → Z' k) : ChV w' Z' c v := by
  cases c with
  | put n f => obtain ⟨b1, b2, e, f1, t1⟩ := h; exact ⟨b1, b2, e, f1.frK fr hk h2 hz, t1.frK fr hk h1 hz⟩
  | ren a b f => obtain ⟨b1, b2, b3, e, t1, f1, t2⟩ := h; exact ⟨b1, b2, b3, e, t1.frK fr hk h1 hz, f1.frK fr hk h2 hz, t2.frK fr hk h1 hz⟩
  | del n => obtain ⟨b1, e, t1⟩ := h; exact ⟨b1, e, t1.frK fr hk h1 hz⟩
theorem ChV.fr {c : Ch} {v : Value} (h : ChV w Z c v) (fr : Fr T w w') (hT : ∀ k, Z k → ¬ T k) (hz : ∀ k, Z k → Z' k) : ChV w' Z' c v := by
  cases c with
  | put n f => obtain ⟨b1, b2, e, f1, t1⟩ := h; exact ⟨b1, b2, e, ⟨fr.blk f1.1 (hT _ f1.2), hz _ f1.2⟩, ⟨fr.blk t1.1 (hT _ t1.2.1), hz _ t1.2.1, t1.2.2⟩⟩
  | ren a b f => obtain ⟨b1, b2, b3, e, t1, f1, t2⟩ := h; exact ⟨b1, b2, b3, e, ⟨fr.blk t1.1 (hT _ t1.2.1), hz _ t1.2.1, t1.2.2⟩, ⟨fr.blk f1.1 (hT _ f1.2), hz _ f1.2⟩, ⟨fr.blk t2.1 (hT _ t2.2.1), hz _ t2.2.1, t2.2.2⟩⟩
  | del n => obtain ⟨b1, e, t1⟩ := h; exact ⟨b1, e, ⟨fr.blk t1.1 (hT _ t1.2.1), hz _ t1.2.1, t1.2.2⟩⟩
/-- A directory stays while nothing of its own is written. -/
theorem DirP.fr (h : DirP w Z d S N p) (f : Fr T w w') (hT : ∀ k, Z k → ¬ T k) : DirP w' Z d S N p := by
  obtain ⟨n1, D1, a1, m1⟩ := h.now
  obtain ⟨n2, D2, a2, m2⟩ := h.dur
  obtain ⟨vs, o1, c1⟩ := h.chs
  exact ⟨f.blk h.dir (hT _ h.zd), ⟨n1, D1, a1, m1.fr f (hT _ h.znb)⟩, ⟨n2, D2, a2, m2.fr f (hT _ h.zmb)⟩, h.ne, ⟨vs, o1.fr f (fun k hk => hT _ (h.zcv k hk)), fun i c v hc hv => (c1 i c v hc hv).fr f hT (fun _ h => h)⟩,
    fun g x hx => ⟨(h.files g x hx).1.fr f (hT _ (h.files g x hx).2.1) (fun k hk => hT _ ((h.files g x hx).2.2 k hk)), (h.files g x hx).2⟩, h.apart, h.nowf, h.durf, h.chf, h.zd, h.znb, h.zmb, h.zcv, fun k hk => Nat.lt_of_lt_of_le (h.lt k hk) f.size, h.calls⟩
theorem DirP.fr0 (h : DirP w Z d S N p) (f : Fr No w w') : DirP w' Z d S N p := h.fr f (fun _ _ h => h)
theorem DirM.fr (h : DirM w Z d S N) (f : Fr T w w') (hT : ∀ k, Z k → ¬ T k) : DirM w' Z d S N := by obtain ⟨p, h⟩ := h; exact ⟨p, h.fr f hT⟩
theorem DirM.fr0 (h : DirM w Z d S N) (f : Fr No w w') : DirM w' Z d S N := h.fr f (fun _ _ h => h)
theorem DirP.mono (h : DirP w Z d S N p) {N' : Nat} (hN : N ≤ N') : DirP w Z d S N' p := by
  obtain ⟨n1, D1, a1, m1⟩ := h.now
  obtain ⟨n2, D2, a2, m2⟩ := h.dur
  exact { h with now := ⟨n1, D1, by omega, m1⟩, dur := ⟨n2, D2, by omega, m2⟩, calls := Nat.le_trans h.calls hN }
/-- A number of the directory is written. -/
theorem DirP.num (h : DirP w Z d S N p) {S' : Di} {i : Nat} {u : Value} (hc : (dirC p S).setIfInBounds i u = dirC p S') (h1 : S'.fs = S.fs) (h2 : S'.now = S.now) (h3 : S'.dur = S.dur) (h4 : S'.chs = S.chs) (h5 : S'.calls ≤ N) :
    DirP (w.setCell ⟨d, i, none⟩ u) Z d S' N p ∧ Fr (Is d) w (w.setCell ⟨d, i, none⟩ u) := by
  have fr : Fr (Is d) w (w.setCell ⟨d, i, none⟩ u) := (Fr.refl _ w).put i u
  have hk := OfK.is h.dir
  obtain ⟨n1, D1, a1, m1⟩ := h.now
  obtain ⟨n2, D2, a2, m2⟩ := h.dur
  obtain ⟨vs, o1, c1⟩ := h.chs
  refine ⟨⟨?_, ⟨n1, D1, a1, by rw [h2]; exact m1.frK fr hk (by simp [kd])⟩, ⟨n2, D2, by rw [h4]; exact a2, by rw [h3]; exact m2.frK fr hk (by simp [kd])⟩, h.ne, ⟨vs, by rw [h4]; exact own_frK o1 fr hk (by simp [kd]), fun j c v hc hv => (c1 j c v (by rw [← h4]; exact hc) hv).frK fr hk (by simp [kd]) (by simp [kd]) (fun _ h => h)⟩,
    fun g x hx => ?_, by rw [h1]; exact h.apart, by rw [h1, h2]; exact h.nowf, by rw [h1, h3]; exact h.durf, by rw [h1, h4]; exact h.chf, h.zd, h.znb, h.zmb, h.zcv, fun k hk => Nat.lt_of_lt_of_le (h.lt k hk) fr.size, h5⟩, fr⟩
  · rw [heap_setCell_same w d i (dirC p S) _ u h.dir, hc]
  · rw [h1] at hx
    exact ⟨(h.files g x hx).1.frK fr hk (by simp [kd]) (by simp [kd]), (h.files g x hx).2⟩
/-- its cells. -/
theorem DirP.cell (h : DirP w Z d S N p) {i : Nat} {v : Value} (hv : (dirC p S)[i]? = some v) : w.cell? ⟨d, i, none⟩ = some v := by
  rw [cell_of_row w d i (dirC p S) _ (0, 0) h.dir, hv]
theorem DirP.open_ (h : DirP w Z d S N p) (i : Nat) : w.frozen? ⟨d, i, none⟩ = false := frozen_of_row w d i _ _ h.dir
end
end Go.Proofs.Ythbgcmffpnmbeaa
