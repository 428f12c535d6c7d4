/- The document's number at what is left. -/
import Derived.Test.YtpnhnnhocekchaaRefRd
namespace Go.Proofs.Ytpnhnnhocekchaa
set_option linter.unusedVariables false
set_option linter.unusedSimpArgs false
open Go.RowKit

theorem refnum_cut {w : World} {B : Nat} {A : Option Addr} {bs : List UInt8} {c a : Nat} {x : Option (Nat × Nat)} (hr : Rd w B A (by8 bs)) (h1 : bs.length ≤ c) (h2 : c ≤ maxLen) (h3 : a ≤ bs.length) (hB : B ≤ w.heap.size) (hd : dec 0 0 (bs.drop a) = x) :
    ∀ w' : World, w'.heap = w.heap → Calls Try.prog 107 #[.slice (if c = a then A else A.map (·.add a)) (bs.length - a) (c - a)] w' (RetF (numW x) w') := by
  intro w' hw
  have hcell : ∀ p, w'.cell? p = w.cell? p := fun p => by simp [World.cell?, hw]
  subst hd
  refine refNumber_any _ _ _ B (bs.drop a) w' (by simp) (by omega) (by omega) (by rw [hw]; exact hB) ?_
  rw [by8_drop]
  refine Rd.cut ?_ (by rw [by8_length]; exact h1)
  intro j u hu
  obtain ⟨ad, e, hb, hcc⟩ := hr j u hu
  exact ⟨ad, e, hb, by rw [hcell]; exact hcc⟩

end Go.Proofs.Ytpnhnnhocekchaa
