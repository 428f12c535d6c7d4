/- Lists of lists of bytes that are read. -/
import Derived.Test.YthbgcmffpnmbeaaBase
namespace Go.Proofs.Ythbgcmffpnmbeaa
set_option linter.unusedVariables false
set_option linter.unusedSimpArgs false
open Go.RowKit

theorem Fr.setRow (w : World) (g : Nat) (cs : Array Value) : Fr (Is g) w (w.setRow g cs) :=
  ⟨rfl, rfl, rfl, by simp, fun k _ hk => setRow_other w g k _ hk⟩

/-- lists of bytes that are read. -/
def BSl (w : World) (B : Nat) (A : Option Addr) (bss : List (List UInt8)) : Prop :=
  ∀ j bs, bss[j]? = some bs → ∃ ad Aj cj, A = some ad ∧ ad.block < B ∧ w.cell? (ad.add j) = some (.slice Aj bs.length cj) ∧ bs.length ≤ cj ∧ cj ≤ maxLen ∧ Rd w B Aj (by8 bs)
theorem BSl.fr {S : Nat → Prop} {w w' : World} {B : Nat} {A : Option Addr} {bss : List (List UInt8)} (h : BSl w B A bss) (f : Fr S w w') (hS : ∀ k, k < B → ¬ S k) : BSl w' B A bss := fun j bs hj => by
  obtain ⟨ad, Aj, cj, e, hb, hc, h1, h2, hr⟩ := h j bs hj
  exact ⟨ad, Aj, cj, e, hb, f.cell hc (by rw [block_of_add]; exact hS _ hb), h1, h2, hr.fr f hS⟩
theorem BSl.fr0 {w w' : World} {B : Nat} {A : Option Addr} {bss : List (List UInt8)} (h : BSl w B A bss) (f : Fr No w w') : BSl w' B A bss := h.fr f (fun _ _ h => h)
theorem BSl.more {w : World} {B B' : Nat} {A : Option Addr} {bss : List (List UInt8)} (h : BSl w B A bss) (hB : B ≤ B') : BSl w B' A bss := fun j bs hj => by
  obtain ⟨ad, Aj, cj, e, hb, hc, h1, h2, hr⟩ := h j bs hj
  exact ⟨ad, Aj, cj, e, by omega, hc, h1, h2, hr.more hB⟩

theorem BSl.single {w : World} {B n c : Nat} {A : Option Addr} {bs : List UInt8} {e : TypeId} (hn : bs.length = n) (h1 : n ≤ c) (h2 : c ≤ maxLen) (hr : Rd w B A (by8 bs)) (hB : B ≤ w.heap.size) : BSl (w.alloc (.cells #[.slice A n c] e)) (w.heap.size + 1) (some ⟨w.heap.size, 0, none⟩) [bs] := by
  subst hn
  intro j bs' hj
  cases j with
  | zero =>
    injection hj with hj
    subst hj
    refine ⟨_, A, c, rfl, by simp, ?_, h1, h2, (hr.fr0 ((Fr.refl _ _).alloc _)).more (by omega)⟩
    rw [Addr.add_lit, cell_of_row _ w.heap.size (0 + 0) #[.slice A bs.length c] e (0, 0) (heap_alloc_new w _)]
    rfl
  | succ j => simp at hj

end Go.Proofs.Ythbgcmffpnmbeaa
