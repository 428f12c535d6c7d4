/- Steps that came in: a row of structs of nine cells; one struct. -/
import Derived.Test.YthbgcmffpnmbeaaOpen
import Derived.Test.YthbgcmffpnmbeaaVfSm
import Derived.Deep.Slices
import Derived.Deep.Fields
import Derived.ChangeSame
namespace Go.Proofs.Ythbgcmffpnmbeaa
set_option linter.unusedVariables false
set_option linter.unusedSimpArgs false
open Go.ChangeShapes Go.WideShapes Go.ChangeAt Go.RowKit

theorem open8n {H : Type} {enc : TypeId × Value → H} {W : World} {a : Option Addr} {len cap fuel : Nat} {y : DataW H × List MemPlace}
    (hf : DataW.trod enc Try.prog W 0 (fun _ => true) true fuel 35 [.slice a len cap] = some y) :
    ∃ bs : List UInt8, bs.length = len ∧ len ≤ cap ∧ cap ≤ maxLen ∧ Rd W W.heap.size a (by8 bs) := by
  rcases open_ints Try.underlying35 Try.underlying5 (by kernel_rfl) hf with ⟨hcs, _⟩ | ⟨x, l, c, zs, hcs, _, hl, hm, hz, hd, hcell, hwz⟩
  · simp at hcs
    obtain ⟨rfl, rfl, rfl⟩ := hcs
    exact ⟨[], rfl, Nat.le_refl _, Nat.zero_le _, Rd.nil _ _ _⟩
  · simp at hcs
    obtain ⟨rfl, rfl, rfl⟩ := hcs
    have hz : zs.length = cap := by simpa using hz
    refine ⟨(zs.take len).map fun n => UInt8.ofNat n.toNat, by simp; omega, hl, hm, ?_⟩
    intro j u hu
    simp only [by8, List.map_map, List.getElem?_map, List.getElem?_take] at hu
    split at hu
    · rename_i hj
      have hjz : j < zs.length := by omega
      rw [List.getElem?_eq_getElem hjz] at hu
      injection hu with hu
      have hc := hcell j hjz
      have hw := hwz zs[j] (List.getElem_mem hjz)
      have hb : 0 ≤ zs[j] ∧ zs[j] ≤ 255 := by simpa [Lit.wf, IntKind.min, IntKind.max, IntKind.signed, IntKind.bits] using hw
      have hv : (((UInt8.ofNat zs[j].toNat).toNat : Nat) : Int) = zs[j] := by
        have h1 : (UInt8.ofNat zs[j].toNat).toNat = zs[j].toNat := by simp [UInt8.toNat_ofNat]; omega
        rw [h1]; omega
      have he : zs.getD j 0 = zs[j] := by simp [List.getElem?_eq_getElem hjz]
      rw [he] at hc
      refine ⟨x, rfl, ?_, ?_⟩
      · have := World.block_lt_of_cell? W _ hc
        rwa [block_of_add] at this
      · rw [hc, ← hu]
        simp only [Function.comp_apply, hv]
    · cases hu
theorem openIntn {H : Type} {enc : TypeId × Value → H} {W : World} {a : Option Addr} {len cap fuel : Nat} {y : DataW H × List MemPlace}
    (hf : DataW.trod enc Try.prog W 0 (fun _ => true) true fuel 23 [.slice a len cap] = some y) :
    ∃ zs : List Int, zs.length = len ∧ len ≤ cap ∧ cap ≤ maxLen ∧ Rd W W.heap.size a (iz .i64 zs) ∧ ∀ z ∈ zs, -9223372036854775808 ≤ z ∧ z ≤ 9223372036854775807 := by
  rcases open_ints Try.underlying23 Try.underlying3 (by kernel_rfl) hf with ⟨hcs, _⟩ | ⟨x, l, c, zs, hcs, _, hl, hm, hz, hd, hcell, hwz⟩
  · simp at hcs
    obtain ⟨rfl, rfl, rfl⟩ := hcs
    exact ⟨[], rfl, Nat.le_refl _, Nat.zero_le _, Rd.nil _ _ _, fun z hz => (by cases hz)⟩
  · simp at hcs
    obtain ⟨rfl, rfl, rfl⟩ := hcs
    have hz : zs.length = cap := by simpa using hz
    refine ⟨zs.take len, by simp; omega, hl, hm, ?_, ?_⟩
    · intro j u hu
      simp only [iz, List.getElem?_map, List.getElem?_take] at hu
      split at hu
      · rename_i hj
        have hjz : j < zs.length := by omega
        rw [List.getElem?_eq_getElem hjz] at hu
        injection hu with hu
        have hc := hcell j hjz
        have he : zs.getD j 0 = zs[j] := by simp [List.getElem?_eq_getElem hjz]
        rw [he] at hc
        refine ⟨x, rfl, ?_, by rw [hc, ← hu]⟩
        have := World.block_lt_of_cell? W _ hc
        rwa [block_of_add] at this
      · cases hu
    · intro z hz2
      have hw := hwz z (List.mem_of_mem_take hz2)
      simpa [Lit.wf, IntKind.min, IntKind.max, IntKind.signed, IntKind.bits] using hw
theorem trod_slice_form {H : Type} {enc : TypeId × Value → H} {W : World} {fuel : Nat} {t e : TypeId} {v : Value} {y : DataW H × List MemPlace} (ht : Try.prog.underlying t = some (.slice e))
    (h : DataW.trod enc Try.prog W 0 (fun _ => true) true fuel t [v] = some y) : ∃ a len cap, v = .slice a len cap := by
  rcases Go.Deep.open_slice ht h with ⟨hcs, _⟩ | ⟨x, l, c, m, n, D, Pl, hcs, _⟩
  · injection hcs with hcs; exact ⟨_, _, _, hcs⟩
  · injection hcs with hcs; exact ⟨_, _, _, hcs⟩
/-- the fields of a struct's type. -/
def fsOf : Option TypeDesc → Array Field
  | some (.struct fs) => fs
  | _ => #[]
noncomputable def stepFs : Array Field := fsOf (Try.prog.underlying 40)
theorem step_desc : Try.prog.underlying 40 = some (.struct stepFs) := by kernel_rfl
theorem step_one : Go.Deep.oneCellFields Try.prog stepFs = true := by kernel_rfl
theorem step_cells : Try.prog.cellsOf 40 = 9 := by kernel_rfl
theorem step_types : stepFs.toList.map (·.type) = [3, 3, 3, 3, 3, 9, 9, 35, 23] := by kernel_rfl
theorem step_field {j : Nat} {t : TypeId} (h : [3, 3, 3, 3, 3, 9, 9, 35, 23][j]? = some t) : ∃ f, stepFs[j]? = some f ∧ f.type = t := by
  rw [← step_types, List.getElem?_map] at h
  obtain ⟨f, hf, rfl⟩ := Option.map_eq_some_iff.1 h
  exact ⟨f, by simpa using hf, rfl⟩
theorem int_of_trod {H : Type} {enc : TypeId × Value → H} {W : World} {fuel : Nat} {v : Value} {y : DataW H × List MemPlace}
    (h : DataW.trod enc Try.prog W 0 (fun _ => true) true fuel 3 [v] = some y) : ∃ n : Int, v = .int .i64 n ∧ -9223372036854775808 ≤ n ∧ n ≤ 9223372036854775807 := by
  obtain ⟨n, e1, _, e3⟩ := DataW.trod_int Try.underlying3 h
  injection e1 with e1
  exact ⟨n, e1, by simpa [Lit.wf, IntKind.min, IntKind.max, IntKind.signed, IntKind.bits] using e3⟩
theorem str_of_trod {H : Type} {enc : TypeId × Value → H} {W : World} {fuel : Nat} {v : Value} {y : DataW H × List MemPlace}
    (h : DataW.trod enc Try.prog W 0 (fun _ => true) true fuel 9 [v] = some y) : ∃ t : Tx, v = sv t ∧ t.length ≤ maxLen := by
  obtain ⟨s, e1, _, e3⟩ := DataW.trod_string Try.underlying9 h
  injection e1 with e1
  exact ⟨s.data.toList, e1, (by rw [Array.length_toList]; exact e3)⟩
instance : Inhabited StpV := ⟨⟨⟨0, 0, 0, 0, 0, [], [], [], []⟩, none, 0, none, 0⟩⟩
/-- one step that came in. -/
theorem open_stv {H : Type} {enc : TypeId × Value → H} {W : World} {n : Nat} {cs' : List Value} {y : DataW H × List MemPlace}
    (h : DataW.trod enc Try.prog W 0 (fun _ => true) true n 40 cs' = some y) : ∃ v : StpV, cs' = v.cells ∧ StO W W.heap.size v := by
  obtain ⟨xs, m, _, hy, hcl, hlen, hf⟩ := DataW.trod_struct step_desc h
  rw [step_cells] at hcl
  have one : ∀ (j : Nat) (t : TypeId), [3, 3, 3, 3, 3, 9, 9, 35, 23][j]? = some t → j < 9 → ∃ v z, cs'[j]? = some v ∧ DataW.trod enc Try.prog W 0 (fun _ => true) true m t [v] = some z := by
    intro j t ht hj
    obtain ⟨f, hfj, rfl⟩ := step_field ht
    obtain ⟨ho, hk⟩ := Go.Deep.hone_of step_one j f hfj
    have h1 := hf j f hfj
    rw [ho, hk] at h1
    have hd : (cs'.drop j).take 1 = [cs'[j]'(by omega)] := by
      rw [List.drop_eq_getElem_cons (by omega)]
      rfl
    rw [hd] at h1
    have hjs : j < stepFs.size := (Array.getElem?_eq_some_iff.1 hfj).1
    have hx : xs[j]? = some (xs[j]'(by omega)) := List.getElem?_eq_getElem (by omega)
    exact ⟨_, _, List.getElem?_eq_getElem (by omega), h1.trans hx⟩
  obtain ⟨v0, _, c0, t0⟩ := one 0 _ rfl (by omega)
  obtain ⟨v1, _, c1, t1⟩ := one 1 _ rfl (by omega)
  obtain ⟨v2, _, c2, t2⟩ := one 2 _ rfl (by omega)
  obtain ⟨v3, _, c3, t3⟩ := one 3 _ rfl (by omega)
  obtain ⟨v4, _, c4, t4⟩ := one 4 _ rfl (by omega)
  obtain ⟨v5, _, c5, t5⟩ := one 5 _ rfl (by omega)
  obtain ⟨v6, _, c6, t6⟩ := one 6 _ rfl (by omega)
  obtain ⟨v7, _, c7, t7⟩ := one 7 _ rfl (by omega)
  obtain ⟨v8, _, c8, t8⟩ := one 8 _ rfl (by omega)
  obtain ⟨n0, rfl, _⟩ := int_of_trod t0
  obtain ⟨n1, rfl, _⟩ := int_of_trod t1
  obtain ⟨n2, rfl, hn2⟩ := int_of_trod t2
  obtain ⟨n3, rfl, _⟩ := int_of_trod t3
  obtain ⟨n4, rfl, hn4⟩ := int_of_trod t4
  obtain ⟨s5, rfl, hs5⟩ := str_of_trod t5
  obtain ⟨s6, rfl, hs6⟩ := str_of_trod t6
  obtain ⟨a7, l7, p7, rfl⟩ := trod_slice_form Try.underlying35 t7
  obtain ⟨a8, l8, p8, rfl⟩ := trod_slice_form Try.underlying23 t8
  obtain ⟨bs, e1, e2, e3, e4⟩ := open8n t7
  obtain ⟨zs, g1, g2, g3, g4, g5⟩ := openIntn t8
  subst e1 g1
  refine ⟨⟨⟨n0, n1, n2, n3, n4, s5, s6, bs, zs⟩, a7, p7, a8, p8⟩, ?_, ⟨e2, e3, e4, g2, g3, g4, hs5, hs6, g5, hn4, hn2⟩⟩
  refine List.ext_getElem? fun j => ?_
  by_cases hj : j < 9
  · rcases j with _ | _ | _ | _ | _ | _ | _ | _ | _ | j
    · exact c0
    · exact c1
    · exact c2
    · exact c3
    · exact c4
    · exact c5
    · exact c6
    · exact c7
    · exact c8
    · omega
  · rw [List.getElem?_eq_none (by omega), List.getElem?_eq_none (by simp [StpV.cells]; omega)]
theorem lit_add9 (a : Addr) (i j : Nat) (hj : j ≠ 0) : (a.add i).add j = ⟨(a.add i).block, (a.add i).off + j, none⟩ := by
  generalize a.add i = b
  unfold Addr.add
  rw [if_neg hj]
/-- steps that came in. -/
theorem openSteps {H : Type} {enc : TypeId × Value → H} {W : World} {a : Option Addr} {len cap : Nat} {d : DataW H} {p : List MemPlace}
    (h : DataW.Trod enc Try.prog W 0 (fun _ => true) true 22 (.slice a len cap) d p) :
    ∃ l : List StpV, l.length = len ∧ len ≤ cap ∧ cap ≤ maxLen ∧ StR W W.heap.size a l := by
  obtain ⟨fuel, hf⟩ := h
  rcases Go.Deep.open_slice Try.underlying22 hf with ⟨hcs, _⟩ | ⟨x, l, c, m, n, D, Pl, hcs, _, hl, hm, hmm, _, hel⟩
  · simp [Value.cells] at hcs
    obtain ⟨rfl, rfl, rfl⟩ := hcs
    exact ⟨[], rfl, Nat.le_refl _, Nat.zero_le _, fun j s hs => by simp at hs⟩
  · simp [Value.cells] at hcs
    obtain ⟨rfl, rfl, rfl⟩ := hcs
    have hmc : m = cap := hmm
    rw [step_cells] at hel
    have hall : ∀ i, i < len → ∃ v : StpV, W.cells? 0 (x.add (i * 9)) 9 = some v.cells ∧ StO W W.heap.size v := by
      intro i hi
      obtain ⟨cs', h1, h2⟩ := hel i (by omega)
      obtain ⟨v, rfl, hv⟩ := open_stv h2
      exact ⟨v, h1, hv⟩
    obtain ⟨g, hg⟩ := Go.Deep.choose_lt hall
    refine ⟨(List.range len).map g, by simp, hl, hm, fun j v hv => ?_⟩
    have hj : j < len := by have := (List.getElem?_eq_some_iff.1 hv).1; simpa using this
    rw [List.getElem?_map, List.getElem?_range hj] at hv
    simp only [Option.map_some, Option.some.injEq] at hv
    subst hv
    obtain ⟨h1, h2⟩ := hg j hj
    obtain ⟨_, hcl, hat⟩ := World.cells?_some h1
    have e0 : (x.add (j * 9)).add 0 = x.add (j * 9) := by rw [add_of_add]; rfl
    have c0 := hat 0 (by omega)
    rw [e0] at c0
    refine ⟨x, rfl, ?_, h2, c0, fun i u hi hu => ?_⟩
    · have := World.block_lt_of_cell? W _ c0
      rwa [block_of_add] at this
    · have hi9 : i < 9 := by have := (List.getElem?_eq_some_iff.1 hu).1; simpa [StpV.cells] using this
      rw [← lit_add9 _ _ _ hi, hat i hi9, hu]
/-- how many steps memory bears. -/
theorem steps_small {H : Type} {enc : TypeId × Value → H} {W : World} {a : Option Addr} {len cap : Nat} {d : DataW H} {p : List MemPlace}
    (h : DataW.Trod enc Try.prog W 0 (fun _ => true) true 22 (.slice a len cap) d p) (hsz : ∀ n ∈ d.weights Try.prog 22, n ≤ reachBytes) : len ≤ 140737488355328 := by
  obtain ⟨fuel, hf⟩ := h
  rcases Go.Deep.open_slice Try.underlying22 hf with ⟨hcs, _⟩ | ⟨x, l, c, m, f, D, Pl, hcs, _, hl, hm, hmm, hy, hel⟩
  · simp [Value.cells] at hcs
    obtain ⟨rfl, rfl, rfl⟩ := hcs
    omega
  · simp [Value.cells] at hcs
    obtain ⟨rfl, rfl, rfl⟩ := hcs
    have hby : Try.prog.bytesOf 40 = 120 := by kernel_rfl
    injection hy with hy _
    have h1 := hsz ((((List.range len).map D).length + ((List.range (m - len)).map fun j => D (len + j)).length) * Try.prog.bytesOf 40) (by
      rw [hy]
      simp only [DataW.weights, Try.underlying22]
      exact List.mem_cons_self)
    rw [hby] at h1
    simp only [List.length_map, List.length_range] at h1
    unfold reachBytes at h1
    omega
end Go.Proofs.Ythbgcmffpnmbeaa
