/- Rows of uint64 that came in; the library's table, out of what the row lists. -/
import Derived.Test.YtapfbjaopbcgjaaDoorOpen
import Derived.Test.YtapfbjaopbcgjaaDoorAfter
import Derived.Test.YtapfbjaopbcgjaaDoorInts
import Derived.LaidMore
import Derived.OpenShut
import Derived.Handed
import Derived.HandedShaped
import Derived.MakeChecks
import Derived.LaidHandle
import Derived.Stop.Joined
namespace Go.Proofs.YtapfbjaopbcgjaaDoor
set_option linter.unusedVariables false
set_option linter.unusedSimpArgs false
open Go.ChangeShapes Go.WideShapes Go.ChangeAt Go.RowKit

theorem openU64 {H : Type} {enc : TypeId × Value → H} {W : World} {a : Option Addr} {len cap : Nat} {d : DataW H} {p : List MemPlace}
    (h : DataW.Trod enc Tryd.prog W 0 (fun _ => true) true 22 (.slice a len cap) d p)
    (hsz : ∀ elems spare, d = .slice elems spare → (elems.length + spare.length) * Tryd.prog.bytesOf 23 ≤ reachBytes) :
    ∃ zs : List Int, zs.length = len ∧ len ≤ cap ∧ cap ≤ maxLen ∧ cap * 8 ≤ 140737488351232 ∧ Rd W W.heap.size a (iz .u64 zs) ∧ ∀ z ∈ zs, 0 ≤ z ∧ z ≤ 18446744073709551615 := by
  obtain ⟨fuel, hf⟩ := h
  rcases open_ints Tryd.underlying22 Tryd.underlying23 (by kernel_rfl) hf with ⟨hcs, _⟩ | ⟨x, l, c, zs, hcs, _, hl, hm, hz, hd, hcell, hwz⟩
  · simp [Value.cells] at hcs
    obtain ⟨rfl, rfl, rfl⟩ := hcs
    exact ⟨[], rfl, Nat.le_refl _, Nat.zero_le _, Nat.zero_le _, Rd.nil _ _ _, fun z hz => by cases hz⟩
  · simp [Value.cells] at hcs
    obtain ⟨rfl, rfl, rfl⟩ := hcs
    injection hd with hd _
    have hz : zs.length = cap := by simpa using hz
    have hs := hsz _ _ hd
    have hby : Tryd.prog.bytesOf 23 = 8 := by kernel_rfl
    rw [hby] at hs
    have hlen : (lits (H := H) .u64 (zs.take len)).length + (lits (H := H) .u64 (zs.drop len)).length = cap := by simp [lits]; omega
    rw [hlen] at hs
    refine ⟨zs.take len, by simp; omega, hl, hm, by simpa [reachBytes] using hs, ?_, ?_⟩
    · intro j u hu
      simp only [iz, List.getElem?_map, List.getElem?_take] at hu
      split at hu
      · rename_i hj
        have hjz : j < zs.length := by omega
        rw [List.getElem?_eq_getElem hjz] at hu
        injection hu with hu
        have hc := hcell j hjz
        have he : zs.getD j 0 = zs[j] := by simp [List.getElem?_eq_getElem hjz]
        rw [he] at hc
        refine ⟨x, rfl, ?_, by rw [hc, ← hu]⟩
        have := World.block_lt_of_cell? W _ hc
        rwa [block_of_add] at this
      · cases hu
    · intro z hz2
      have hw := hwz z (List.mem_of_mem_take hz2)
      simpa [Lit.wf, IntKind.min, IntKind.max, IntKind.signed, IntKind.bits] using hw

theorem gTab : Tryd.prog.globalNamed "math/bits.deBruijn64tab" = some 0 := by kernel_rfl
theorem tTab : (Tryd.prog.globals[0]?).map (·.type) = some 106 := by kernel_rfl
def laidTab : List (String × DataW Unit) := [("math/bits.deBruijn64tab", Rows.laid_math_bits_deBruijn64tab)]
theorem door_met (os : Os) (args : Array Value) : laidMetH Tryd.prog laidTab ((World.doorLaid Tryd.prog 400 os).forCall (fun _ _ => 0) ⟨#[], args, []⟩).memory :=
  laidMetH_of_parts3 (fuel := 8) (laidMet_of_run' 8 (by kernel_rfl) (by kernel_rfl)) (by kernel_rfl) (by kernel_rfl)
def tabD : DataW Unit := .agg (Lib.deBruijn64tab.map fun (n : Nat) => .lit (.int .u8 (n : Int)))
theorem tabD_eq : (Rows.laid_math_bits_deBruijn64tab : DataW Unit) = tabD := by kernel_rfl
theorem tab_of_laid {W : World} (h : laidMetH Tryd.prog laidTab W) : Tab W := by
  rw [MakeChecks.laidMetH_plain _ _ _ (by kernel_rfl)] at h
  obtain ⟨ps, ⟨g0, t0, cs0, f0, p0, q0, hg0, ht0, hv0, hd0, _, _⟩, _, _⟩ := h
  obtain rfl := Option.some.inj (gTab.symm.trans hg0)
  obtain rfl := Option.some.inj (tTab.symm.trans ht0)
  rw [tabD_eq] at hd0
  obtain ⟨xs, m1, rfl, hx1, hlen, hn3, hel⟩ := DataW.trod_array Tryd.underlying106 hd0
  have c1 : Tryd.prog.cellsOf 5 = 1 := by kernel_rfl
  intro j hj
  have h0 := hel j hj
  rw [c1, Nat.mul_one] at h0
  simp only [Prod.mk.injEq] at hx1
  have hx : Lib.deBruijn64tab.map (fun (n : Nat) => (DataW.lit (.int .u8 (n : Int)) : DataW Unit)) = xs.map (·.1) := by
    have := hx1.1
    unfold tabD at this
    injection this
  have hjx : j < xs.length := by omega
  rw [List.getElem?_eq_getElem hjx] at h0
  obtain ⟨n, e1, e2, _⟩ := DataW.trod_int Tryd.underlying5 h0
  have hv := World.var?_cell hg0 hv0 j
  have hjl : j < Lib.deBruijn64tab.length := hj
  have hxj := congrArg (fun l => l[j]?) hx
  simp only [List.getElem?_map, List.getElem?_eq_getElem hjx, List.getElem?_eq_getElem hjl, Option.map_some, Option.some.injEq] at hxj
  rw [e2] at hxj
  simp only [DataW.lit.injEq, Lit.int.injEq, true_and] at hxj
  have hd : Lib.deBruijn64tab.getD j 0 = Lib.deBruijn64tab[j] := by simp [List.getElem?_eq_getElem hjl]
  rw [hv, hd, hxj]
  have h2 := congrArg (fun l => l[0]?) e1
  simp only [List.getElem?_take, List.getElem?_drop, Nat.add_zero] at h2
  simpa using h2
end Go.Proofs.YtapfbjaopbcgjaaDoor
