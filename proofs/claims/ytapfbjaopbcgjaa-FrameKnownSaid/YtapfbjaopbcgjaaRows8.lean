/- Arguments that came in: lists of bytes; one byte. Lists of bytes that are lent. -/
import Derived.Test.YtapfbjaopbcgjaaOpen
import Derived.Test.YtapfbjaopbcgjaaVals
import Derived.Test.YtapfbjaopbcgjaaLent8
import Derived.Deep.Matrix
namespace Go.Proofs.Ytapfbjaopbcgjaa
set_option linter.unusedVariables false
set_option linter.unusedSimpArgs false
open Go.ChangeShapes Go.WideShapes Go.ChangeAt Go.RowKit

theorem weights_all {H : Type} {e : TypeId} {l : List (DataW H)} {d : DataW H} (h : d ∈ l) : ∀ n ∈ d.weights Try.prog e, n ∈ DataW.weightsAll Try.prog e l := by
  induction l with
  | nil => cases h
  | cons x r ih =>
    intro n hn
    simp only [DataW.weightsAll, List.mem_append]
    rcases List.mem_cons.1 h with rfl | h
    · exact .inl hn
    · exact .inr (ih h n hn)

/-- lists of bytes that came in. -/
theorem openRows {H : Type} {enc : TypeId × Value → H} {W : World} {a : Option Addr} {len cap : Nat} {d : DataW H} {p : List MemPlace}
    (h : DataW.Trod enc Try.prog W 0 (fun _ => true) true 22 (.slice a len cap) d p) (hsz : ∀ n ∈ d.weights Try.prog 22, n ≤ reachBytes) :
    ∃ bss : List (List UInt8), bss.length = len ∧ len ≤ cap ∧ cap ≤ maxLen ∧ cap * 24 ≤ 140737488351232 ∧ BSl W W.heap.size a bss ∧ ∀ b ∈ bss, b.length ≤ 140737488351232 := by
  obtain ⟨fuel, hf⟩ := h
  rcases Go.Deep.open_int_rows Try.underlying22 Try.underlying23 Try.underlying5 (by kernel_rfl) (by kernel_rfl) hf with ⟨hcs, _⟩ | ⟨x, l, c, A, L, C, Z, hcs, _, hl, hm, hd, hrow⟩
  · simp [Value.cells] at hcs
    obtain ⟨rfl, rfl, rfl⟩ := hcs
    exact ⟨[], rfl, Nat.le_refl _, Nat.zero_le _, Nat.zero_le _, fun j bs hj => by simp at hj, fun b hb => by cases hb⟩
  · simp [Value.cells] at hcs
    obtain ⟨rfl, rfl, rfl⟩ := hcs
    injection hd with hd _
    subst hd
    have hby : Try.prog.bytesOf 5 = 1 := by kernel_rfl
    have hby2 : Try.prog.bytesOf 23 = 24 := by kernel_rfl
    have hc : cap * 24 ≤ 140737488351232 := by
      have := hsz _ (by simp only [DataW.weights, Try.underlying22]; exact List.mem_cons_self)
      rw [hby2] at this
      simp only [List.length_map, List.length_range] at this
      have e : len + (cap - len) = cap := by omega
      rw [e] at this
      simpa [reachBytes] using this
    have hrowlen : ∀ r, r < len → C r ≤ 140737488351232 := by
      intro r hr
      obtain ⟨_, h1, h2, h3, h4, h5, _⟩ := hrow r (by omega)
      cases hA : A r with
      | none => rw [h5 hA]; omega
      | some ad =>
        have hmem : Go.Deep.intRow (H := H) .u8 (A r) (L r) (Z r) ∈ (List.range len).map fun r => Go.Deep.intRow (H := H) .u8 (A r) (L r) (Z r) := List.mem_map.2 ⟨r, List.mem_range.2 hr, rfl⟩
        have h6 := weights_all (e := 23) hmem
        have h7 := hsz _ (by
          simp only [DataW.weights, Try.underlying22, List.mem_cons, List.mem_append]
          refine .inr (.inl (h6 (((lits (H := H) .u8 ((Z r).take (L r))).length + (lits (H := H) .u8 ((Z r).drop (L r))).length) * Try.prog.bytesOf 5) ?_))
          simp only [Go.Deep.intRow, hA, DataW.weights, Try.underlying23]
          exact List.mem_cons_self)
        rw [hby] at h7
        have hlen : (lits (H := H) .u8 ((Z r).take (L r))).length + (lits (H := H) .u8 ((Z r).drop (L r))).length = C r := by simp [lits]; omega
        rw [hlen] at h7
        simpa [reachBytes] using h7
    refine ⟨(List.range len).map fun r => ((Z r).take (L r)).map fun n => UInt8.ofNat n.toNat, by simp, hl, hm, hc, ?_, ?_⟩
    · intro j bs hj
      have hjl : j < len := by
        rcases Nat.lt_or_ge j len with h | h
        · exact h
        · rw [List.getElem?_eq_none (by simpa using h)] at hj; cases hj
      rw [List.getElem?_map, List.getElem?_range hjl] at hj
      simp only [Option.map_some, Option.some.injEq] at hj
      subst hj
      obtain ⟨h0, h1, h2, h3, h4, h5, h6⟩ := hrow j (by omega)
      have hll : (((Z j).take (L j)).map fun n => UInt8.ofNat n.toNat).length = L j := by simp; omega
      refine ⟨x, A j, C j, rfl, ?_, by rw [hll]; exact h0, by rw [hll]; exact h1, h2, ?_⟩
      · have := World.block_lt_of_cell? W _ h0
        rwa [block_of_add] at this
      · intro i u hu
        simp only [by8, List.map_map, List.getElem?_map, List.getElem?_take] at hu
        split at hu
        · rename_i hi
          have hiz : i < (Z j).length := by omega
          rw [List.getElem?_eq_getElem hiz] at hu
          injection hu with hu
          cases hA : A j with
          | none => have := h5 hA; omega
          | some a' =>
            have hcell := (h6 a' hA).2 i (by omega)
            have he : (Z j).getD i 0 = (Z j)[i] := by simp [List.getElem?_eq_getElem hiz]
            rw [he] at hcell
            have hw := h4 (Z j)[i] (List.getElem_mem hiz)
            have hb : 0 ≤ (Z j)[i] ∧ (Z j)[i] ≤ 255 := by simpa [Lit.wf, IntKind.min, IntKind.max, IntKind.signed, IntKind.bits] using hw
            have hv : (((UInt8.ofNat (Z j)[i].toNat).toNat : Nat) : Int) = (Z j)[i] := by
              have e1 : (UInt8.ofNat (Z j)[i].toNat).toNat = (Z j)[i].toNat := by simp [UInt8.toNat_ofNat]; omega
              rw [e1]; omega
            refine ⟨a', rfl, ?_, ?_⟩
            · have := World.block_lt_of_cell? W _ hcell
              rwa [block_of_add] at this
            · rw [hcell, ← hu]
              simp only [Function.comp_apply, hv]
        · cases hu
    · intro b hb
      obtain ⟨r, hr, rfl⟩ := List.mem_map.1 hb
      have hr := List.mem_range.1 hr
      obtain ⟨_, h1, _, h3, _⟩ := hrow r (by omega)
      have := hrowlen r hr
      simp
      omega
/-- one byte that came in. -/
theorem byte_of {z : Int} (h : (Lit.int .u8 z).wf = true) : ∃ b : UInt8, z = ((b.toNat : Nat) : Int) := by
  have hb : 0 ≤ z ∧ z ≤ 255 := by simpa [Lit.wf, IntKind.min, IntKind.max, IntKind.signed, IntKind.bits] using h
  refine ⟨UInt8.ofNat z.toNat, ?_⟩
  have e1 : (UInt8.ofNat z.toNat).toNat = z.toNat := by simp [UInt8.toNat_ofNat]; omega
  rw [e1]; omega

theorem own_len (A : Option Addr) (n m c d : Nat) : (Value.slice A n c).ownBlock = (Value.slice A m d).ownBlock := by cases A <;> rfl
/-- lists of bytes that are lent: each with a mark behind it, in its own memory. -/
structure Lents (w : World) (base : Nat) (vals : List Value) (bss : List (List UInt8)) : Prop where
  len : vals.length = bss.length
  own : ∀ (j : Nat) (v : Value) (bs : List UInt8), vals[j]? = some v → bss[j]? = some bs → ∃ A c, v = .slice A bs.length c ∧ Own w base 5 1 (.slice A (bs.length + 1) c) (bs.length + 1) (by8 (bs ++ [201]))
section
variable {S : Nat → Prop} {w w' : World} {base : Nat} {vals : List Value} {bss : List (List UInt8)}
theorem Lents.nil (w : World) (base : Nat) : Lents w base [] [] := ⟨rfl, fun j v bs h => by simp at h⟩
theorem Lents.fr (h : Lents w base vals bss) (f : Fr S w w') (hS : ∀ (j : Nat) v, vals[j]? = some v → ∀ k, v.ownBlock = some k → ¬ S k) : Lents w' base vals bss :=
  ⟨h.len, fun j v bs hv hb => by
    obtain ⟨A, c, rfl, ho⟩ := h.own j v bs hv hb
    exact ⟨A, c, rfl, ho.fr f (fun g hg => hS j _ hv g (by rw [own_len A bs.length (bs.length + 1) c c]; exact hg))⟩⟩
theorem Lents.fr0 (h : Lents w base vals bss) (f : Fr No w w') : Lents w' base vals bss := h.fr f (fun _ _ _ _ _ h => h)
theorem Lents.lt (h : Lents w base vals bss) {j : Nat} {v : Value} (hv : vals[j]? = some v) : ∀ k, v.ownBlock = some k → base ≤ k ∧ k < w.heap.size := by
  intro k hk
  have hj := (List.getElem?_eq_some_iff.1 hv).1
  rw [h.len] at hj
  obtain ⟨A, c, rfl, ho⟩ := h.own j v _ hv (List.getElem?_eq_getElem hj)
  exact ho.lt k (by rw [own_len A _ (bss[j].length) c c]; exact hk)
theorem Lents.other {b2 e2 s2 n2 : Nat} {v2 : Value} {xs2 : List Value} (h : Lents w base vals bss) (o : Own w b2 e2 s2 v2 n2 xs2) (hne : 5 ≠ e2) (f : Fr (fun k => v2.ownBlock = some k) w w') : Lents w' base vals bss :=
  ⟨h.len, fun j v bs hv hb => by
    obtain ⟨A, c, rfl, ho⟩ := h.own j v bs hv hb
    exact ⟨A, c, rfl, ho.fr f (fun g hg => ho.apart o hne g hg)⟩⟩
theorem Lents.snoc {A : Option Addr} {c : Nat} {bs : List UInt8} (h : Lents w base vals bss) (o : Own w base 5 1 (.slice A (bs.length + 1) c) (bs.length + 1) (by8 (bs ++ [201]))) : Lents w base (vals ++ [.slice A bs.length c]) (bss ++ [bs]) := by
  have hl := h.len
  refine ⟨by simp [hl], ?_⟩
  intro j v' bs' hv hb'
  by_cases hj : j < vals.length
  · rw [List.getElem?_append_left hj] at hv
    rw [List.getElem?_append_left (by omega)] at hb'
    exact h.own j v' bs' hv hb'
  · have hj1 := (List.getElem?_eq_some_iff.1 hv).1
    have e1 : j = vals.length := by simp at hj1; omega
    subst e1
    rw [List.getElem?_append_right (Nat.le_refl _), Nat.sub_self] at hv
    rw [hl, List.getElem?_append_right (Nat.le_refl _), Nat.sub_self] at hb'
    simp at hv hb'
    subst hv; subst hb'
    exact ⟨A, c, rfl, o⟩
theorem Lents.bsl (h : Lents w base vals bss) {A : Option Addr} (hr : Rd w w.heap.size A vals) : BSl w w.heap.size A bss := fun j bs hj => by
  have hj1 := (List.getElem?_eq_some_iff.1 hj).1
  have hv : vals[j]? = some (vals[j]'(by rw [h.len]; exact hj1)) := List.getElem?_eq_getElem _
  obtain ⟨ad, e, hb, hc⟩ := hr j _ hv
  obtain ⟨A', c', hv', ho⟩ := h.own j _ bs hv hj
  rw [hv'] at hc
  have hle := ho.le
  refine ⟨ad, A', c', e, hb, hc, by omega, hle.2.2, ?_⟩
  have h3 := ho.rd.tk bs.length
  rw [← by8_take, List.take_left] at h3
  exact h3
end
end Go.Proofs.Ytapfbjaopbcgjaa
