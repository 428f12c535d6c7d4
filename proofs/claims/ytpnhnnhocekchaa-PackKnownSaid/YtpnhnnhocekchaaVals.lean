/- Words for memory, more: rows of slices that share no memory; what make lays. -/
import Derived.Test.YtpnhnnhocekchaaMem4
import Derived.Test.YtpnhnnhocekchaaApart8
import Derived.Test.YtpnhnnhocekchaaBSl
import Derived.Laws.MakeOwn
namespace Go.Proofs.Ytpnhnnhocekchaa
set_option linter.unusedVariables false
set_option linter.unusedSimpArgs false
open Go.RowKit

theorem Own.apart {w : World} {b1 b2 e1 e2 s1 s2 n1 n2 : Nat} {v1 v2 : Value} {xs1 xs2 : List Value} (h1 : Own w b1 e1 s1 v1 n1 xs1) (h2 : Own w b2 e2 s2 v2 n2 xs2) (hne : e1 ≠ e2) : ∀ k, v1.ownBlock = some k → v2.ownBlock ≠ some k := by
  intro k hk hk2
  obtain ⟨_, A, c, rfl, _, _, hA⟩ := h2
  rcases hA with ⟨rfl, _⟩ | ⟨g, cur, rfl, _, hh, _⟩
  · simp [Value.ownBlock] at hk2
  · have e : g = k := Option.some.inj hk2
    subst e
    exact h1.ne_blk hk hh hne
theorem Own.above {S : Nat → Prop} {w w' : World} {base e size n : Nat} {v : Value} {xs : List Value} (h : Own w base e size v n xs) (f : Fr S w w') (hS : ∀ k, S k → k < base) : Own w' base e size v n xs :=
  h.fr f (fun k hk e => by have := (h.lt k hk).1; have := hS k e; omega)
theorem made_own (w : World) (k : Nat) (e : TypeId) (v : Value) (z : Array Value) (hz : z = #[v]) (hk : k ≤ maxLen) : Own (w.alloc (.cells (madeCells z k) e)) w.heap.size e 1 (.slice (some ⟨w.heap.size, 0, none⟩) k k) k (List.replicate k v) := by
  subst hz
  refine ⟨by simp, _, _, rfl, Nat.le_refl _, hk, .inr ⟨w.heap.size, _, rfl, Nat.le_refl _, heap_alloc_new w _, by rw [size_madeCells]; omega, ?_⟩⟩
  rw [Nat.mul_one, List.take_of_length_le (by rw [Array.length_toList, size_madeCells]; omega)]
  apply List.ext_getElem
  · simp [madeCells]
  · intro i h1 h2
    simp [madeCells, Nat.mod_one]

theorem Fr.putO (w : World) (G j n c : Nat) (v : Value) : Fr (fun k => (Value.slice (some ⟨G, 0, none⟩) n c).ownBlock = some k) w (w.setCell ⟨G, j, none⟩ v) :=
  (Fr.refl (fun k => (Value.slice (some ⟨G, 0, none⟩) n c).ownBlock = some k) w).setCell (p := ⟨G, j, none⟩) (fun _ => (rfl : some G = some G)) v
theorem Own.some_at {w : World} {base e n : Nat} {v : Value} {xs : List Value} (h : Own w base e 1 v n xs) {k : Nat} (hk : k < n) : ∃ u, xs[k]? = some u :=
  ⟨_, List.getElem?_eq_getElem (by have := h.1; omega)⟩
/-- integers as cells. -/
def ints (l : List Nat) : List Value := l.map fun (n : Nat) => .int .i64 n

/-- slices of bytes that were handed out: each of its own memory. -/
structure Vals (w : World) (base : Nat) (vals : List Value) (bss : List (List UInt8)) : Prop where
  len : vals.length = bss.length
  own : ∀ (j : Nat) (v : Value) (bs : List UInt8), vals[j]? = some v → bss[j]? = some bs → Own w base 5 1 v bs.length (by8 bs)
  dis : ∀ (i j : Nat) (vi vj : Value), i < j → vals[i]? = some vi → vals[j]? = some vj → ∀ k, vi.ownBlock = some k → vj.ownBlock ≠ some k
section
variable {S : Nat → Prop} {w w' : World} {base : Nat} {vals : List Value} {bss : List (List UInt8)}
theorem Vals.nil (w : World) (base : Nat) : Vals w base [] [] := ⟨rfl, fun j v bs h => by simp at h, fun i j vi vj _ h => by simp at h⟩
theorem Vals.get (h : Vals w base vals bss) {j : Nat} {v : Value} (hv : vals[j]? = some v) : ∃ bs, bss[j]? = some bs ∧ Own w base 5 1 v bs.length (by8 bs) := by
  have hj := (List.getElem?_eq_some_iff.1 hv).1
  rw [h.len] at hj
  exact ⟨_, List.getElem?_eq_getElem hj, h.own j v _ hv (List.getElem?_eq_getElem hj)⟩
theorem Vals.fr (h : Vals w base vals bss) (f : Fr S w w') (hS : ∀ (j : Nat) v, vals[j]? = some v → ∀ k, v.ownBlock = some k → ¬ S k) : Vals w' base vals bss :=
  ⟨h.len, fun j v bs hv hb => (h.own j v bs hv hb).fr f (hS j v hv), h.dis⟩
theorem Vals.fr0 (h : Vals w base vals bss) (f : Fr No w w') : Vals w' base vals bss := h.fr f (fun _ _ _ _ _ h => h)
theorem Vals.above (h : Vals w base vals bss) (f : Fr S w w') (hS : ∀ k, S k → k < base) : Vals w' base vals bss := h.fr f (fun j v hv k hk e => by
  obtain ⟨bs, _, ho⟩ := h.get hv
  have := (ho.lt k hk).1
  have := hS k e
  omega)
theorem Vals.other {b2 e2 s2 n2 : Nat} {v2 : Value} {xs2 : List Value} (h : Vals w base vals bss) (o : Own w b2 e2 s2 v2 n2 xs2) (hne : 5 ≠ e2) (f : Fr (fun k => v2.ownBlock = some k) w w') : Vals w' base vals bss := h.fr f (fun j v hv k hk e => by
  obtain ⟨bs, _, ho⟩ := h.get hv
  exact ho.apart o hne k hk e)
theorem Vals.lower {b2 : Nat} (h : Vals w base vals bss) (hb : b2 ≤ base) : Vals w b2 vals bss := ⟨h.len, fun j v bs hv hb' => (h.own j v bs hv hb').lower hb, h.dis⟩
theorem Vals.snoc {w0 : World} {v : Value} {bs : List UInt8} (h0 : Vals w0 base vals bss) (h : Vals w base vals bss) (o : Own w w0.heap.size 5 1 v bs.length (by8 bs)) (hb : base ≤ w0.heap.size) : Vals w base (vals ++ [v]) (bss ++ [bs]) := by
  have hl := h.len
  refine ⟨by simp [hl], ?_, ?_⟩
  · intro j v' bs' hv hb'
    by_cases hj : j < vals.length
    · rw [List.getElem?_append_left hj] at hv
      rw [List.getElem?_append_left (by omega)] at hb'
      exact h.own j v' bs' hv hb'
    · have hj1 := (List.getElem?_eq_some_iff.1 hv).1
      have e1 : j = vals.length := by simp at hj1; omega
      subst e1
      rw [List.getElem?_append_right (Nat.le_refl _), Nat.sub_self] at hv
      rw [hl, List.getElem?_append_right (Nat.le_refl _), Nat.sub_self] at hb'
      simp at hv hb'
      subst hv; subst hb'
      exact o.lower hb
  · intro i j vi vj hij hi hj k hk
    have hj1 := (List.getElem?_eq_some_iff.1 hj).1
    by_cases hjl : j < vals.length
    · rw [List.getElem?_append_left (by omega)] at hi
      rw [List.getElem?_append_left hjl] at hj
      exact h.dis i j vi vj hij hi hj k hk
    · have e1 : j = vals.length := by simp at hj1; omega
      subst e1
      rw [List.getElem?_append_left hij] at hi
      rw [List.getElem?_append_right (Nat.le_refl _), Nat.sub_self] at hj
      simp at hj
      subst hj
      intro hk2
      obtain ⟨bs', _, ho⟩ := h0.get hi
      have h1 := (ho.lt k hk).2
      have h2 := (o.lt k hk2).1
      omega
/-- as lists that are read. -/
theorem Vals.bsl (h : Vals w base vals bss) {A : Option Addr} (hr : Rd w w.heap.size A vals) : BSl w w.heap.size A bss := fun j bs hj => by
  have hj1 := (List.getElem?_eq_some_iff.1 hj).1
  have hv : vals[j]? = some (vals[j]'(by rw [h.len]; exact hj1)) := List.getElem?_eq_getElem _
  obtain ⟨ad, e, hb, hc⟩ := hr j _ hv
  have ho := h.own j _ bs hv hj
  obtain ⟨A', c', hv', h1, h2, _, h3, _⟩ := ho.form
  rw [hv'] at hc
  exact ⟨ad, A', c', e, hb, hc, h1, h2, h3⟩
end
/-- one slice, laid in a new block ('append(s, x)'). -/
theorem src_slice (w : World) (A : Option Addr) (n c : Nat) : Src Try.prog 1 37 (.slice (some ⟨w.heap.size, 0, none⟩) 1 1) 1 [.slice A n c] (w.alloc (.cells #[.slice A n c] 23)) :=
  Src.one (P := Try.prog) w (e := 23) Try.underlying37 _ rfl
theorem Try.infoB : (Try.prog.info? 23).map (fun i => (i.zero, i.size, i.bytes)) = some (some (.slice none 0 0), 1, 24) := by kernel_rfl
end Go.Proofs.Ytpnhnnhocekchaa
