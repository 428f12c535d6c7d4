/- Words for memory, more: a store into a slice of the call's own; a reader under stores elsewhere. -/
import Derived.Test.YtpcoadbbngmpbaaCodecJ
namespace Go.Proofs.Ytpcoadbbngmpbaa
open Go.RowKit

/-- a store into a slice of the call's own (elements of one cell). -/
theorem Own.set {w : World} {base e n c : Nat} {A : Option Addr} {xs : List Value} (h : Own w base e 1 (.slice A n c) n xs) {k : Nat} (hk : k < n) :
    ∃ g, A = some ⟨g, 0, none⟩ ∧ base ≤ g ∧ g < w.heap.size ∧ w.cell? ⟨g, k, none⟩ = xs[k]? ∧ w.frozen? ⟨g, k, none⟩ = false ∧
      ∀ v : Value, Own (w.setCell ⟨g, k, none⟩ v) base e 1 (.slice A n c) n (xs.set k v) := by
  obtain ⟨hl, A', c', hv, hn, hm, hA⟩ := h
  injection hv with h1 h2 h3
  subst h1; subst h3
  rcases hA with ⟨rfl, rfl⟩ | ⟨g, cur, rfl, hb, hh, hcs, ht⟩
  · omega
  · refine ⟨g, rfl, hb, (Array.getElem?_eq_some_iff.1 hh).1, ?_, by simp [World.frozen?, hh], ?_⟩
    · rw [cell_of_row w g k cur e (0, 0) hh, ← ht, List.getElem?_take, if_pos (by omega)]
      simp
    · intro v
      refine ⟨by rw [List.length_set]; exact hl, _, c, rfl, hn, hm, .inr ⟨g, cur.set! k v, rfl, hb, ?_, by simpa using hcs, ?_⟩⟩
      · simp [World.setCell, Array.getElem?_modify, hh]
      · rw [← ht]
        simp only [Array.set!_eq_setIfInBounds, Array.toList_setIfInBounds]
        rw [List.take_set]

theorem by8_set (xs : List UInt8) (k : Nat) (b : UInt8) : (by8 xs).set k (.int .u8 b.toNat) = by8 (xs.set k b) := by
  simp [by8, List.map_set]

/-- where a reader's bytes lie: below M. -/
def At0 (w : World) (g M : Nat) : Prop := ∀ A n c, w.cell? ⟨g, 0, none⟩ = some (.slice A n c) → ∀ k, (Value.slice A n c).ownBlock = some k → k < M
theorem At0.of {w : World} {g : Nat} {bs : List UInt8} {a : Nat} {e : Int} (h : RD w g bs a e) : At0 w g w.heap.size := by
  obtain ⟨A, c, hh, h1, h2, h3, h4, ho⟩ := h
  intro A' n' c' hc k hk
  rw [cell_of_row w g 0 _ _ (0, 0) hh] at hc
  have : Value.slice A bs.length c = .slice A' n' c' := by simpa using hc
  rw [← this] at hk
  exact (ho.lt k hk).2
theorem At0.same {w w' : World} {g M : Nat} (h : At0 w g M) (f : Same0 w g w') : At0 w' g M := by
  intro A n c hc k hk
  exact h A n c (f.symm.trans hc) k hk
/-- stores into blocks from M on leave a reader alone, if it and its bytes lie below M. -/
theorem RD.above {S : Nat → Prop} {w w' : World} {g M : Nat} {bs : List UInt8} {a : Nat} {e : Int} (h : RD w g bs a e) (h0 : At0 w g M) (hg : g < M) (f : Fr S w w') (hS : ∀ k, k < M → ¬ S k) : RD w' g bs a e := by
  obtain ⟨A, c, hh, h1, h2', h3, h4, ho⟩ := h
  refine ⟨A, c, f.blk hh (hS g hg), h1, h2', h3, h4, ho.fr f ?_⟩
  intro k hk
  exact hS k (h0 A bs.length c (by rw [cell_of_row w g 0 _ _ (0, 0) hh]; rfl) k hk)
end Go.Proofs.Ytpcoadbbngmpbaa
