/- Steps that came in: a row of structs. -/
import Derived.Test.YtapfbjaopbcgjaaDoorOpen
import Derived.Test.YtapfbjaopbcgjaaDoorPlaysP
import Derived.Deep.Slices
import Derived.Deep.Fields
import Derived.ChangeSame
namespace Go.Proofs.YtapfbjaopbcgjaaDoor
set_option linter.unusedVariables false
set_option linter.unusedSimpArgs false
open Go.ChangeShapes Go.WideShapes Go.ChangeAt Go.RowKit

/-- the fields of a struct's type. -/
def fsOf : Option TypeDesc → Array Field
  | some (.struct fs) => fs
  | _ => #[]
noncomputable def stepFs : Array Field := fsOf (Tryd.prog.underlying 40)
theorem step_desc : Tryd.prog.underlying 40 = some (.struct stepFs) := by kernel_rfl
theorem step_one : Go.Deep.oneCellFields Tryd.prog stepFs = true := by kernel_rfl
theorem step_cells : Tryd.prog.cellsOf 40 = 5 := by kernel_rfl
theorem step_types : stepFs.toList.map (·.type) = [3, 3, 3, 3, 4] := by kernel_rfl
theorem step_field {j : Nat} {t : TypeId} (h : [3, 3, 3, 3, 4][j]? = some t) : ∃ f, stepFs[j]? = some f ∧ f.type = t := by
  rw [← step_types, List.getElem?_map] at h
  obtain ⟨f, hf, rfl⟩ := Option.map_eq_some_iff.1 h
  exact ⟨f, by simpa using hf, rfl⟩

theorem int_of_trod {H : Type} {enc : TypeId × Value → H} {W : World} {fuel : Nat} {v : Value} {y : DataW H × List MemPlace}
    (h : DataW.trod enc Tryd.prog W 0 (fun _ => true) true fuel 3 [v] = some y) : ∃ n : Int, v = .int .i64 n ∧ -9223372036854775808 ≤ n ∧ n ≤ 9223372036854775807 := by
  obtain ⟨n, e1, _, e3⟩ := DataW.trod_int Tryd.underlying3 h
  injection e1 with e1
  exact ⟨n, e1, by simpa [Lit.wf, IntKind.min, IntKind.max, IntKind.signed, IntKind.bits] using e3⟩
theorem lit_add (a : Addr) (i j : Nat) (hj : j ≠ 0) : (a.add i).add j = ⟨(a.add i).block, (a.add i).off + j, none⟩ := by
  generalize a.add i = b
  unfold Addr.add
  rw [if_neg hj]
/-- one step that came in. -/
theorem open_step {H : Type} {enc : TypeId × Value → H} {W : World} {a : Addr} {i n : Nat} {cs' : List Value} {y : DataW H × List MemPlace}
    (hc : W.cells? 0 (a.add (i * 5)) 5 = some cs') (h : DataW.trod enc Tryd.prog W 0 (fun _ => true) true n 40 cs' = some y) :
    ∃ s : StepV, (-9223372036854775808 ≤ s.n ∧ s.n ≤ 9223372036854775807) ∧ W.cell? (a.add (i * 5)) = some (.int .i64 s.kind) ∧ W.cell? ⟨(a.add (i * 5)).block, (a.add (i * 5)).off + 1, none⟩ = some (.int .i64 s.who) ∧ W.cell? ⟨(a.add (i * 5)).block, (a.add (i * 5)).off + 2, none⟩ = some (.int .i64 s.other) ∧
      W.cell? ⟨(a.add (i * 5)).block, (a.add (i * 5)).off + 3, none⟩ = some (.int .i64 s.n) ∧ W.cell? ⟨(a.add (i * 5)).block, (a.add (i * 5)).off + 4, none⟩ = some (.bool s.all) := by
  obtain ⟨_, hcl, hat⟩ := World.cells?_some hc
  obtain ⟨xs, m, _, _, _, hlen, hf⟩ := DataW.trod_struct step_desc h
  have one : ∀ (j : Nat) (t : TypeId), [3, 3, 3, 3, 4][j]? = some t → j < 5 → ∃ v z, W.cell? ((a.add (i * 5)).add j) = some v ∧ DataW.trod enc Tryd.prog W 0 (fun _ => true) true m t [v] = some z := by
    intro j t ht hj
    obtain ⟨f, hfj, rfl⟩ := step_field ht
    obtain ⟨ho, hk⟩ := Go.Deep.hone_of step_one j f hfj
    have h1 := hf j f hfj
    rw [ho, hk] at h1
    have hd : (cs'.drop j).take 1 = [cs'[j]'(by omega)] := by
      rw [List.drop_eq_getElem_cons (by omega)]
      rfl
    rw [hd] at h1
    have hjs : j < stepFs.size := (Array.getElem?_eq_some_iff.1 hfj).1
    have hx : xs[j]? = some (xs[j]'(by omega)) := List.getElem?_eq_getElem (by omega)
    exact ⟨_, _, (hat j hj).trans (List.getElem?_eq_getElem (by omega)), h1.trans hx⟩
  obtain ⟨v0, z0, c0, t0⟩ := one 0 _ rfl (by omega)
  obtain ⟨v1, z1, c1, t1⟩ := one 1 _ rfl (by omega)
  obtain ⟨v2, z2, c2, t2⟩ := one 2 _ rfl (by omega)
  obtain ⟨v3, z3, c3, t3⟩ := one 3 _ rfl (by omega)
  obtain ⟨v4, z4, c4, t4⟩ := one 4 _ rfl (by omega)
  obtain ⟨n0, rfl, _⟩ := int_of_trod t0
  obtain ⟨n1, rfl, _⟩ := int_of_trod t1
  obtain ⟨n2, rfl, _⟩ := int_of_trod t2
  obtain ⟨n3, rfl, hn3⟩ := int_of_trod t3
  obtain ⟨b, e4, _⟩ := DataW.trod_bool Tryd.underlying4 t4
  injection e4 with e4
  subst e4
  have e0 : (a.add (i * 5)).add 0 = a.add (i * 5) := by rw [add_of_add]; rfl
  rw [e0] at c0
  rw [lit_add _ _ _ (by omega)] at c1 c2 c3 c4
  exact ⟨⟨n0, n1, n2, n3, b⟩, hn3, c0, c1, c2, c3, c4⟩
/-- steps that came in. -/
theorem openSteps {H : Type} {enc : TypeId × Value → H} {W : World} {a : Option Addr} {len cap : Nat} {d : DataW H} {p : List MemPlace}
    (h : DataW.Trod enc Tryd.prog W 0 (fun _ => true) true 36 (.slice a len cap) d p) :
    ∃ l : List StepV, l.length = len ∧ len ≤ cap ∧ cap ≤ maxLen ∧ StRd W W.heap.size a l ∧ ∀ s ∈ l, -9223372036854775808 ≤ s.n ∧ s.n ≤ 9223372036854775807 := by
  obtain ⟨fuel, hf⟩ := h
  rcases Go.Deep.open_slice Tryd.underlying36 hf with ⟨hcs, _⟩ | ⟨x, l, c, m, n, D, Pl, hcs, _, hl, hm, hmm, _, hel⟩
  · simp [Value.cells] at hcs
    obtain ⟨rfl, rfl, rfl⟩ := hcs
    exact ⟨[], rfl, Nat.le_refl _, Nat.zero_le _, fun j s hs => by simp at hs, fun s hs => by cases hs⟩
  · simp [Value.cells] at hcs
    obtain ⟨rfl, rfl, rfl⟩ := hcs
    have hmc : m = cap := hmm
    rw [step_cells] at hel
    have hall : ∀ i, i < len → ∃ s : StepV, (-9223372036854775808 ≤ s.n ∧ s.n ≤ 9223372036854775807) ∧ W.cell? (x.add (i * 5)) = some (.int .i64 s.kind) ∧ W.cell? ⟨(x.add (i * 5)).block, (x.add (i * 5)).off + 1, none⟩ = some (.int .i64 s.who) ∧ W.cell? ⟨(x.add (i * 5)).block, (x.add (i * 5)).off + 2, none⟩ = some (.int .i64 s.other) ∧
      W.cell? ⟨(x.add (i * 5)).block, (x.add (i * 5)).off + 3, none⟩ = some (.int .i64 s.n) ∧ W.cell? ⟨(x.add (i * 5)).block, (x.add (i * 5)).off + 4, none⟩ = some (.bool s.all) := by
      intro i hi
      obtain ⟨cs', h1, h2⟩ := hel i (by omega)
      exact open_step h1 h2
    let f : Nat → StepV := fun i => if h : i < len then (hall i h).choose else ⟨0, 0, 0, 0, false⟩
    have hfs : ∀ i (h : i < len), f i = (hall i h).choose := fun i h => dif_pos h
    refine ⟨(List.range len).map f, by simp, hl, hm, ?_, ?_⟩
    · intro j s hs
      rw [List.getElem?_map] at hs
      have hj : j < len := by
        rcases Nat.lt_or_ge j len with h | h
        · exact h
        · rw [List.getElem?_eq_none (by simpa using h)] at hs; cases hs
      rw [List.getElem?_range hj] at hs
      simp only [Option.map_some, Option.some.injEq] at hs
      subst hs
      rw [hfs j hj]
      obtain ⟨_, c0, c1, c2, c3, c4⟩ := (hall j hj).choose_spec
      refine ⟨x, rfl, ?_, c0, c1, c2, c3, c4⟩
      have := World.block_lt_of_cell? W _ c0
      rwa [block_of_add] at this
    · intro s hs
      obtain ⟨i, hi, rfl⟩ := List.mem_map.1 hs
      rw [List.mem_range] at hi
      rw [hfs i hi]
      exact (hall i hi).choose_spec.1
end Go.Proofs.YtapfbjaopbcgjaaDoor
