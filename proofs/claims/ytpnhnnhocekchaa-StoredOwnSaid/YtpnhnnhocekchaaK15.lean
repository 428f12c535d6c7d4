/- Several texts in one: Open, OpenN, Lent8, Rows8, OpenD. -/
import Derived.Test.YtpnhnnhocekchaaK14
import Derived.Test.YtpnhnnhocekchaaRows
import Derived.ProofKit
import Derived.OpenShut
import Derived.ShutString
import Derived.ChangeOld
import Derived.Below
import Derived.SizedLaws
import Derived.HandedShaped
import Derived.Deep.Matrix
import Derived.Deep.Slices
import Derived.Deep.Fields
namespace Go.Proofs.Ytpnhnnhocekchaa
set_option linter.unusedVariables false
set_option linter.unusedSimpArgs false
open Go.ChangeShapes Go.WideShapes Go.ChangeAt Go.RowKit

theorem Try.own : ownKnob Try.prog.godebug = none := by kernel_rfl
theorem Try.laidOut : laidOutB Try.prog = true := by kernel_rfl

/-- bytes that came in. -/
theorem open8 {H : Type} {enc : TypeId × Value → H} {W : World} {a : Option Addr} {len cap : Nat} {d : DataW H} {p : List MemPlace}
    (h : DataW.Trod enc Try.prog W 0 (fun _ => true) true 23 (.slice a len cap) d p)
    (hsz : ∀ elems spare, d = .slice elems spare → (elems.length + spare.length) * Try.prog.bytesOf 5 ≤ reachBytes) :
    ∃ bs : List UInt8, bs.length = len ∧ len ≤ cap ∧ cap ≤ maxLen ∧ cap ≤ 140737488351232 ∧ Rd W W.heap.size a (by8 bs) := by
  obtain ⟨fuel, hf⟩ := h
  rcases open_ints Try.underlying23 Try.underlying5 (by kernel_rfl) hf with ⟨hcs, _⟩ | ⟨x, l, c, zs, hcs, _, hl, hm, hz, hd, hcell, hwz⟩
  · simp [Value.cells] at hcs
    obtain ⟨rfl, rfl, rfl⟩ := hcs
    exact ⟨[], rfl, Nat.le_refl _, Nat.zero_le _, Nat.zero_le _, Rd.nil _ _ _⟩
  · simp [Value.cells] at hcs
    obtain ⟨rfl, rfl, rfl⟩ := hcs
    injection hd with hd _
    have hz : zs.length = cap := by simpa using hz
    have hs := hsz _ _ hd
    have hby : Try.prog.bytesOf 5 = 1 := by kernel_rfl
    rw [hby] at hs
    have hlen : (lits (H := H) .u8 (zs.take len)).length + (lits (H := H) .u8 (zs.drop len)).length = cap := by simp [lits]; omega
    rw [hlen] at hs
    refine ⟨(zs.take len).map fun n => UInt8.ofNat n.toNat, by simp; omega, hl, hm, by simpa [reachBytes] using hs, ?_⟩
    intro j u hu
    simp only [by8, List.map_map, List.getElem?_map, List.getElem?_take] at hu
    split at hu
    · rename_i hj
      have hjz : j < zs.length := by omega
      rw [List.getElem?_eq_getElem hjz] at hu
      injection hu with hu
      have hc := hcell j hjz
      have hw := hwz zs[j] (List.getElem_mem hjz)
      have hb : 0 ≤ zs[j] ∧ zs[j] ≤ 255 := by simpa [Lit.wf, IntKind.min, IntKind.max, IntKind.signed, IntKind.bits] using hw
      have hv : (((UInt8.ofNat zs[j].toNat).toNat : Nat) : Int) = zs[j] := by
        have h1 : (UInt8.ofNat zs[j].toNat).toNat = zs[j].toNat := by simp [UInt8.toNat_ofNat]; omega
        rw [h1]; omega
      have he : zs.getD j 0 = zs[j] := by simp [List.getElem?_eq_getElem hjz]
      rw [he] at hc
      refine ⟨x, rfl, ?_, ?_⟩
      · have := World.block_lt_of_cell? W _ hc
        rwa [block_of_add] at this
      · rw [hc, ← hu]
        simp only [Function.comp_apply, hv]
    · cases hu
end Go.Proofs.Ytpnhnnhocekchaa
namespace Go.Proofs.Ytpnhnnhocekchaa
set_option linter.unusedVariables false
set_option linter.unusedSimpArgs false
open Go.ChangeShapes Go.WideShapes Go.ChangeAt Go.RowKit

theorem openU64 {H : Type} {enc : TypeId × Value → H} {W : World} {a : Option Addr} {len cap : Nat} {d : DataW H} {p : List MemPlace}
    (h : DataW.Trod enc Try.prog W 0 (fun _ => true) true 22 (.slice a len cap) d p)
    (hsz : ∀ elems spare, d = .slice elems spare → (elems.length + spare.length) * Try.prog.bytesOf 52 ≤ reachBytes) :
    ∃ zs : List Int, zs.length = len ∧ len ≤ cap ∧ cap ≤ maxLen ∧ cap * 8 ≤ 140737488351232 ∧ Rd W W.heap.size a (iz .u64 zs) ∧ ∀ z ∈ zs, 0 ≤ z ∧ z ≤ 18446744073709551615 := by
  obtain ⟨fuel, hf⟩ := h
  rcases open_ints Try.underlying22 Try.underlying52 (by kernel_rfl) hf with ⟨hcs, _⟩ | ⟨x, l, c, zs, hcs, _, hl, hm, hz, hd, hcell, hwz⟩
  · simp [Value.cells] at hcs
    obtain ⟨rfl, rfl, rfl⟩ := hcs
    exact ⟨[], rfl, Nat.le_refl _, Nat.zero_le _, Nat.zero_le _, Rd.nil _ _ _, fun z hz => by cases hz⟩
  · simp [Value.cells] at hcs
    obtain ⟨rfl, rfl, rfl⟩ := hcs
    injection hd with hd _
    have hz : zs.length = cap := by simpa using hz
    have hs := hsz _ _ hd
    have hby : Try.prog.bytesOf 52 = 8 := by kernel_rfl
    rw [hby] at hs
    have hlen : (lits (H := H) .u64 (zs.take len)).length + (lits (H := H) .u64 (zs.drop len)).length = cap := by simp [lits]; omega
    rw [hlen] at hs
    refine ⟨zs.take len, by simp; omega, hl, hm, by simpa [reachBytes] using hs, ?_, ?_⟩
    · intro j u hu
      simp only [iz, List.getElem?_map, List.getElem?_take] at hu
      split at hu
      · rename_i hj
        have hjz : j < zs.length := by omega
        rw [List.getElem?_eq_getElem hjz] at hu
        injection hu with hu
        have hc := hcell j hjz
        have he : zs.getD j 0 = zs[j] := by simp [List.getElem?_eq_getElem hjz]
        rw [he] at hc
        refine ⟨x, rfl, ?_, by rw [hc, ← hu]⟩
        have := World.block_lt_of_cell? W _ hc
        rwa [block_of_add] at this
      · cases hu
    · intro z hz2
      have hw := hwz z (List.mem_of_mem_take hz2)
      simpa [Lit.wf, IntKind.min, IntKind.max, IntKind.signed, IntKind.bits] using hw

theorem openI64 {H : Type} {enc : TypeId × Value → H} {W : World} {a : Option Addr} {len cap : Nat} {d : DataW H} {p : List MemPlace}
    (h : DataW.Trod enc Try.prog W 0 (fun _ => true) true 41 (.slice a len cap) d p)
    (hsz : ∀ elems spare, d = .slice elems spare → (elems.length + spare.length) * Try.prog.bytesOf 2 ≤ reachBytes) :
    ∃ zs : List Int, zs.length = len ∧ len ≤ cap ∧ cap ≤ maxLen ∧ cap * 8 ≤ 140737488351232 ∧ Rd W W.heap.size a (iz .i64 zs) ∧ ∀ z ∈ zs, -9223372036854775808 ≤ z ∧ z ≤ 9223372036854775807 := by
  obtain ⟨fuel, hf⟩ := h
  rcases open_ints Try.underlying41 Try.underlying2 (by kernel_rfl) hf with ⟨hcs, _⟩ | ⟨x, l, c, zs, hcs, _, hl, hm, hz, hd, hcell, hwz⟩
  · simp [Value.cells] at hcs
    obtain ⟨rfl, rfl, rfl⟩ := hcs
    exact ⟨[], rfl, Nat.le_refl _, Nat.zero_le _, Nat.zero_le _, Rd.nil _ _ _, fun z hz => by cases hz⟩
  · simp [Value.cells] at hcs
    obtain ⟨rfl, rfl, rfl⟩ := hcs
    injection hd with hd _
    have hz : zs.length = cap := by simpa using hz
    have hs := hsz _ _ hd
    have hby : Try.prog.bytesOf 2 = 8 := by kernel_rfl
    rw [hby] at hs
    have hlen : (lits (H := H) .i64 (zs.take len)).length + (lits (H := H) .i64 (zs.drop len)).length = cap := by simp [lits]; omega
    rw [hlen] at hs
    refine ⟨zs.take len, by simp; omega, hl, hm, by simpa [reachBytes] using hs, ?_, ?_⟩
    · intro j u hu
      simp only [iz, List.getElem?_map, List.getElem?_take] at hu
      split at hu
      · rename_i hj
        have hjz : j < zs.length := by omega
        rw [List.getElem?_eq_getElem hjz] at hu
        injection hu with hu
        have hc := hcell j hjz
        have he : zs.getD j 0 = zs[j] := by simp [List.getElem?_eq_getElem hjz]
        rw [he] at hc
        refine ⟨x, rfl, ?_, by rw [hc, ← hu]⟩
        have := World.block_lt_of_cell? W _ hc
        rwa [block_of_add] at this
      · cases hu
    · intro z hz2
      have hw := hwz z (List.mem_of_mem_take hz2)
      simpa [Lit.wf, IntKind.min, IntKind.max, IntKind.signed, IntKind.bits] using hw

end Go.Proofs.Ytpnhnnhocekchaa
namespace Go.Proofs.Ytpnhnnhocekchaa
set_option linter.unusedVariables false
set_option linter.unusedSimpArgs false
open Go.RowKit

def GivesLent (w : World) (bs : List UInt8) (en : Ending) (w' : World) : Prop :=
  ∃ A c, en = .returned (.slice A bs.length c) ∧ Own w' w.heap.size 5 1 (.slice A (bs.length + 1) c) (bs.length + 1) (by8 (bs ++ [201])) ∧ Fr No w w'

set_option maxRecDepth 100000 in
set_option maxHeartbeats 800000 in
theorem lent8_any (A : Option Addr) (n c B : Nat) (bs : List UInt8) (w : World) (hl : bs.length = n) (hb : n + 1 ≤ 140737488355328) (hr : Rd w B A (by8 bs)) :
    Calls Try.prog 16 #[.slice A n c] w (GivesLent w bs) := by
  obtain ⟨i0, hi, hz, hsz, hby⟩ := info_parts Try.info5
  have HS := hide (Src.ofRd (P := Try.prog) (size := 1) w Try.underlying23 A n c (by8 bs) (by rw [by8_length, hl]; omega) (by omega) hr (by8_one _))
  have HL := hide hl
  clear hr hl
  have b1 : (0 + n) * 1 ≤ 140737488355328 := by omega
  have b2 : 0 + n ≤ maxLen := by unfold maxLen; omega
  have c1 : (0 + n + 1) * 1 ≤ 140737488355328 := by omega
  have c2 : 0 + n + 1 ≤ maxLen := by unfold maxLen; omega
  have HO0 := hide (Own.nil w w.heap.size 5 1)
  go_enter Try.func16, Try.ntmps16
  go_wp2_with (first
    | (at_builtin; refine wpList_append_gen _ rfl (.tmp 4) (.tmp 5) 23 23 rfl w.heap.size 5 i0 (.int .u8 0) 1 1 Try.underlying23 hi hz hsz hby rfl (.slice none 0 0) 0 [] rfl HO0.out _ n (by8 bs) rfl HS.out b1 b2 (Nat.le_refl _) ?_; intro v1 w1 hown hfr hat; have HO1 := hide hown; have HF1 : Hid (Fr No w w1) := hide ((Fr.refl No w).own hfr (fun g h => by cases h)); have hz1 := hfr.size; clear hown hfr hat)
    | (at_builtin; refine wpList_append_gen _ rfl (.tmp 7) (.tmp 8) 23 23 rfl w.heap.size 5 i0 (.int .u8 0) 1 1 Try.underlying23 hi hz hsz hby rfl v1 (0 + n) _ rfl (HO1.out.fr0 ((Fr.refl No w1).alloc (.cells #[.int .u8 201] 5))) _ 1 [.int .u8 201] rfl (Src.one (P := Try.prog) w1 (e := 5) Try.underlying23 (.int .u8 201) rfl) c1 c2 (by simp; omega) ?_; intro v2 w2 hown hfr hat; obtain ⟨A2, k2, rfl, hc1, hc2, _⟩ := hown.form; unfold maxLen at hc2; have HO2 := hide hown; have HF2 : Hid (Fr No w w2) := hide ((HF1.out.alloc _).own hfr (fun g hg => .inl (HO1.out.lt g hg).1)); clear hown hfr hat))
  go_ret
  refine ⟨A2, k2, ?_, ?_, HF2.out⟩
  · rw [HL.out]; first | rfl | simp
  · have h := HO2.out
    rw [HL.out, by8_append]
    simpa [by8] using h

set_option maxRecDepth 100000 in
set_option maxHeartbeats 800000 in
theorem kept8_any (A B : Option Addr) (n c m d b1 b2 : Nat) (xs : List UInt8) (w : World) (hx : xs.length = n) (hm : xs.length = m) (hn : n + 1 ≤ c) (hc : c ≤ maxLen) (hmd : m ≤ d) (hd : d ≤ maxLen) (hr : Rd w b1 A (by8 (xs ++ [201]))) (hs : Rd w b2 B (by8 xs)) :
    Calls Try.prog 26 #[.slice A n c, .slice B m d] w (RetQ (.bool true) w) := by
  have hr1 : Rd w b1 A (by8 xs) := by
    have h := hr.tk xs.length
    rw [← by8_take, List.take_left] at h
    exact h
  have HK := hide (kbytes_any A B n c m d b1 b2 xs xs w hx hm (by omega) hc hmd hd hr1 hs)
  rw [decide_eq_true rfl] at HK
  obtain ⟨ad, rfl, _, hcell⟩ := hr.byte (k := n) (by simp; omega)
  have e1 : (xs ++ [201]).getD n 0 = 201 := by rw [← hx]; simp
  rw [e1] at hcell
  have e2 : ((201 : UInt8).toNat : Nat) = 201 := by decide
  rw [e2] at hcell
  unfold maxLen at hc
  clear hr hs hr1 hx hm e1 e2
  go_enter Try.func26, Try.ntmps26
  go_wp2_with (go_at_call 23; refine HK.out.mono ?_; rintro en w2 ⟨rfl, nq, rfl⟩)
  go_ret
  exact ⟨rfl, _, rfl⟩

end Go.Proofs.Ytpnhnnhocekchaa
namespace Go.Proofs.Ytpnhnnhocekchaa
set_option linter.unusedVariables false
set_option linter.unusedSimpArgs false
open Go.ChangeShapes Go.WideShapes Go.ChangeAt Go.RowKit

theorem weights_all {H : Type} {e : TypeId} {l : List (DataW H)} {d : DataW H} (h : d ∈ l) : ∀ n ∈ d.weights Try.prog e, n ∈ DataW.weightsAll Try.prog e l := by
  induction l with
  | nil => cases h
  | cons x r ih =>
    intro n hn
    simp only [DataW.weightsAll, List.mem_append]
    rcases List.mem_cons.1 h with rfl | h
    · exact .inl hn
    · exact .inr (ih h n hn)

/-- lists of bytes that came in. -/
theorem openRows {H : Type} {enc : TypeId × Value → H} {W : World} {a : Option Addr} {len cap : Nat} {d : DataW H} {p : List MemPlace}
    (h : DataW.Trod enc Try.prog W 0 (fun _ => true) true 37 (.slice a len cap) d p) (hsz : ∀ n ∈ d.weights Try.prog 37, n ≤ reachBytes) :
    ∃ bss : List (List UInt8), bss.length = len ∧ len ≤ cap ∧ cap ≤ maxLen ∧ cap * 24 ≤ 140737488351232 ∧ BSl W W.heap.size a bss ∧ ∀ b ∈ bss, b.length ≤ 140737488351232 := by
  obtain ⟨fuel, hf⟩ := h
  rcases Go.Deep.open_int_rows Try.underlying37 Try.underlying23 Try.underlying5 (by kernel_rfl) (by kernel_rfl) hf with ⟨hcs, _⟩ | ⟨x, l, c, A, L, C, Z, hcs, _, hl, hm, hd, hrow⟩
  · simp [Value.cells] at hcs
    obtain ⟨rfl, rfl, rfl⟩ := hcs
    exact ⟨[], rfl, Nat.le_refl _, Nat.zero_le _, Nat.zero_le _, fun j bs hj => by simp at hj, fun b hb => by cases hb⟩
  · simp [Value.cells] at hcs
    obtain ⟨rfl, rfl, rfl⟩ := hcs
    injection hd with hd _
    subst hd
    have hby : Try.prog.bytesOf 5 = 1 := by kernel_rfl
    have hby2 : Try.prog.bytesOf 23 = 24 := by kernel_rfl
    have hc : cap * 24 ≤ 140737488351232 := by
      have := hsz _ (by simp only [DataW.weights, Try.underlying37]; exact List.mem_cons_self)
      rw [hby2] at this
      simp only [List.length_map, List.length_range] at this
      have e : len + (cap - len) = cap := by omega
      rw [e] at this
      simpa [reachBytes] using this
    have hrowlen : ∀ r, r < len → C r ≤ 140737488351232 := by
      intro r hr
      obtain ⟨_, h1, h2, h3, h4, h5, _⟩ := hrow r (by omega)
      cases hA : A r with
      | none => rw [h5 hA]; omega
      | some ad =>
        have hmem : Go.Deep.intRow (H := H) .u8 (A r) (L r) (Z r) ∈ (List.range len).map fun r => Go.Deep.intRow (H := H) .u8 (A r) (L r) (Z r) := List.mem_map.2 ⟨r, List.mem_range.2 hr, rfl⟩
        have h6 := weights_all (e := 23) hmem
        have h7 := hsz _ (by
          simp only [DataW.weights, Try.underlying37, List.mem_cons, List.mem_append]
          refine .inr (.inl (h6 (((lits (H := H) .u8 ((Z r).take (L r))).length + (lits (H := H) .u8 ((Z r).drop (L r))).length) * Try.prog.bytesOf 5) ?_))
          simp only [Go.Deep.intRow, hA, DataW.weights, Try.underlying23]
          exact List.mem_cons_self)
        rw [hby] at h7
        have hlen : (lits (H := H) .u8 ((Z r).take (L r))).length + (lits (H := H) .u8 ((Z r).drop (L r))).length = C r := by simp [lits]; omega
        rw [hlen] at h7
        simpa [reachBytes] using h7
    refine ⟨(List.range len).map fun r => ((Z r).take (L r)).map fun n => UInt8.ofNat n.toNat, by simp, hl, hm, hc, ?_, ?_⟩
    · intro j bs hj
      have hjl : j < len := by
        rcases Nat.lt_or_ge j len with h | h
        · exact h
        · rw [List.getElem?_eq_none (by simpa using h)] at hj; cases hj
      rw [List.getElem?_map, List.getElem?_range hjl] at hj
      simp only [Option.map_some, Option.some.injEq] at hj
      subst hj
      obtain ⟨h0, h1, h2, h3, h4, h5, h6⟩ := hrow j (by omega)
      have hll : (((Z j).take (L j)).map fun n => UInt8.ofNat n.toNat).length = L j := by simp; omega
      refine ⟨x, A j, C j, rfl, ?_, by rw [hll]; exact h0, by rw [hll]; exact h1, h2, ?_⟩
      · have := World.block_lt_of_cell? W _ h0
        rwa [block_of_add] at this
      · intro i u hu
        simp only [by8, List.map_map, List.getElem?_map, List.getElem?_take] at hu
        split at hu
        · rename_i hi
          have hiz : i < (Z j).length := by omega
          rw [List.getElem?_eq_getElem hiz] at hu
          injection hu with hu
          cases hA : A j with
          | none => have := h5 hA; omega
          | some a' =>
            have hcell := (h6 a' hA).2 i (by omega)
            have he : (Z j).getD i 0 = (Z j)[i] := by simp [List.getElem?_eq_getElem hiz]
            rw [he] at hcell
            have hw := h4 (Z j)[i] (List.getElem_mem hiz)
            have hb : 0 ≤ (Z j)[i] ∧ (Z j)[i] ≤ 255 := by simpa [Lit.wf, IntKind.min, IntKind.max, IntKind.signed, IntKind.bits] using hw
            have hv : (((UInt8.ofNat (Z j)[i].toNat).toNat : Nat) : Int) = (Z j)[i] := by
              have e1 : (UInt8.ofNat (Z j)[i].toNat).toNat = (Z j)[i].toNat := by simp [UInt8.toNat_ofNat]; omega
              rw [e1]; omega
            refine ⟨a', rfl, ?_, ?_⟩
            · have := World.block_lt_of_cell? W _ hcell
              rwa [block_of_add] at this
            · rw [hcell, ← hu]
              simp only [Function.comp_apply, hv]
        · cases hu
    · intro b hb
      obtain ⟨r, hr, rfl⟩ := List.mem_map.1 hb
      have hr := List.mem_range.1 hr
      obtain ⟨_, h1, _, h3, _⟩ := hrow r (by omega)
      have := hrowlen r hr
      simp
      omega
/-- one byte that came in. -/
theorem byte_of {z : Int} (h : (Lit.int .u8 z).wf = true) : ∃ b : UInt8, z = ((b.toNat : Nat) : Int) := by
  have hb : 0 ≤ z ∧ z ≤ 255 := by simpa [Lit.wf, IntKind.min, IntKind.max, IntKind.signed, IntKind.bits] using h
  refine ⟨UInt8.ofNat z.toNat, ?_⟩
  have e1 : (UInt8.ofNat z.toNat).toNat = z.toNat := by simp [UInt8.toNat_ofNat]; omega
  rw [e1]; omega

theorem own_len (A : Option Addr) (n m c d : Nat) : (Value.slice A n c).ownBlock = (Value.slice A m d).ownBlock := by cases A <;> rfl
/-- lists of bytes that are lent: each with a mark behind it, in its own memory. -/
structure Lents (w : World) (base : Nat) (vals : List Value) (bss : List (List UInt8)) : Prop where
  len : vals.length = bss.length
  own : ∀ (j : Nat) (v : Value) (bs : List UInt8), vals[j]? = some v → bss[j]? = some bs → ∃ A c, v = .slice A bs.length c ∧ Own w base 5 1 (.slice A (bs.length + 1) c) (bs.length + 1) (by8 (bs ++ [201]))
section
variable {S : Nat → Prop} {w w' : World} {base : Nat} {vals : List Value} {bss : List (List UInt8)}
theorem Lents.nil (w : World) (base : Nat) : Lents w base [] [] := ⟨rfl, fun j v bs h => by simp at h⟩
theorem Lents.fr (h : Lents w base vals bss) (f : Fr S w w') (hS : ∀ (j : Nat) v, vals[j]? = some v → ∀ k, v.ownBlock = some k → ¬ S k) : Lents w' base vals bss :=
  ⟨h.len, fun j v bs hv hb => by
    obtain ⟨A, c, rfl, ho⟩ := h.own j v bs hv hb
    exact ⟨A, c, rfl, ho.fr f (fun g hg => hS j _ hv g (by rw [own_len A bs.length (bs.length + 1) c c]; exact hg))⟩⟩
theorem Lents.fr0 (h : Lents w base vals bss) (f : Fr No w w') : Lents w' base vals bss := h.fr f (fun _ _ _ _ _ h => h)
theorem Lents.lt (h : Lents w base vals bss) {j : Nat} {v : Value} (hv : vals[j]? = some v) : ∀ k, v.ownBlock = some k → base ≤ k ∧ k < w.heap.size := by
  intro k hk
  have hj := (List.getElem?_eq_some_iff.1 hv).1
  rw [h.len] at hj
  obtain ⟨A, c, rfl, ho⟩ := h.own j v _ hv (List.getElem?_eq_getElem hj)
  exact ho.lt k (by rw [own_len A _ (bss[j].length) c c]; exact hk)
theorem Lents.other {b2 e2 s2 n2 : Nat} {v2 : Value} {xs2 : List Value} (h : Lents w base vals bss) (o : Own w b2 e2 s2 v2 n2 xs2) (hne : 5 ≠ e2) (f : Fr (fun k => v2.ownBlock = some k) w w') : Lents w' base vals bss :=
  ⟨h.len, fun j v bs hv hb => by
    obtain ⟨A, c, rfl, ho⟩ := h.own j v bs hv hb
    exact ⟨A, c, rfl, ho.fr f (fun g hg => ho.apart o hne g hg)⟩⟩
theorem Lents.snoc {A : Option Addr} {c : Nat} {bs : List UInt8} (h : Lents w base vals bss) (o : Own w base 5 1 (.slice A (bs.length + 1) c) (bs.length + 1) (by8 (bs ++ [201]))) : Lents w base (vals ++ [.slice A bs.length c]) (bss ++ [bs]) := by
  have hl := h.len
  refine ⟨by simp [hl], ?_⟩
  intro j v' bs' hv hb'
  by_cases hj : j < vals.length
  · rw [List.getElem?_append_left hj] at hv
    rw [List.getElem?_append_left (by omega)] at hb'
    exact h.own j v' bs' hv hb'
  · have hj1 := (List.getElem?_eq_some_iff.1 hv).1
    have e1 : j = vals.length := by simp at hj1; omega
    subst e1
    rw [List.getElem?_append_right (Nat.le_refl _), Nat.sub_self] at hv
    rw [hl, List.getElem?_append_right (Nat.le_refl _), Nat.sub_self] at hb'
    simp at hv hb'
    subst hv; subst hb'
    exact ⟨A, c, rfl, o⟩
theorem Lents.bsl (h : Lents w base vals bss) {A : Option Addr} (hr : Rd w w.heap.size A vals) : BSl w w.heap.size A bss := fun j bs hj => by
  have hj1 := (List.getElem?_eq_some_iff.1 hj).1
  have hv : vals[j]? = some (vals[j]'(by rw [h.len]; exact hj1)) := List.getElem?_eq_getElem _
  obtain ⟨ad, e, hb, hc⟩ := hr j _ hv
  obtain ⟨A', c', hv', ho⟩ := h.own j _ bs hv hj
  rw [hv'] at hc
  have hle := ho.le
  refine ⟨ad, A', c', e, hb, hc, by omega, hle.2.2, ?_⟩
  have h3 := ho.rd.tk bs.length
  rw [← by8_take, List.take_left] at h3
  exact h3
end
end Go.Proofs.Ytpnhnnhocekchaa
namespace Go.Proofs.Ytpnhnnhocekchaa
set_option linter.unusedVariables false
set_option linter.unusedSimpArgs false
open Go.ChangeShapes Go.WideShapes Go.ChangeAt Go.RowKit

instance : Inhabited EntV := ⟨.none⟩
/-- the fields of a struct's type. -/
def fsOf : Option TypeDesc → Array Field
  | some (.struct fs) => fs
  | _ => #[]
noncomputable def entFs : Array Field := fsOf (Try.prog.underlying 109)
theorem ent_desc : Try.prog.underlying 109 = some (.struct entFs) := by kernel_rfl
theorem ent_one : Go.Deep.oneCellFields Try.prog entFs = true := by kernel_rfl
theorem ent_cells : Try.prog.cellsOf 109 = 3 := by kernel_rfl
theorem ent_types : entFs.toList.map (·.type) = [9, 9, 41] := by kernel_rfl
theorem ent_field {j : Nat} {t : TypeId} (h : [9, 9, 41][j]? = some t) : ∃ f, entFs[j]? = some f ∧ f.type = t := by
  rw [← ent_types, List.getElem?_map] at h
  obtain ⟨f, hf, rfl⟩ := Option.map_eq_some_iff.1 h
  exact ⟨f, by simpa using hf, rfl⟩
theorem lit_add (a : Addr) (i j : Nat) (hj : j ≠ 0) : (a.add i).add j = ⟨(a.add i).block, (a.add i).off + j, none⟩ := by
  generalize a.add i = b
  unfold Addr.add
  rw [if_neg hj]
theorem weights_each {H : Type} : ∀ (ts : List TypeId) (ds : List (DataW H)) (j : Nat) (t : TypeId) (d : DataW H), ts[j]? = some t → ds[j]? = some d → ∀ n ∈ d.weights Try.prog t, n ∈ DataW.weightsEach Try.prog ts ds
  | [], _, j, t, d, h, _ => by simp at h
  | _ :: _, [], j, t, d, _, h => by simp at h
  | t0 :: ts, d0 :: ds, 0, t, d, h1, h2 => by
    simp at h1 h2
    subst h1 h2
    intro n hn
    simp only [DataW.weightsEach, List.mem_append]
    exact .inl hn
  | t0 :: ts, d0 :: ds, j + 1, t, d, h1, h2 => by
    simp at h1 h2
    intro n hn
    simp only [DataW.weightsEach, List.mem_append]
    exact .inr (weights_each ts ds j t d h1 h2 n hn)
/-- one entry that came in. -/
theorem open_ent {H : Type} {enc : TypeId × Value → H} {W : World} {a : Addr} {i n : Nat} {cs' : List Value} {y : DataW H × List MemPlace}
    (hc : W.cells? 0 (a.add (i * 3)) 3 = some cs') (h : DataW.trod enc Try.prog W 0 (fun _ => true) true n 109 cs' = some y) (hsz : ∀ n ∈ y.1.weights Try.prog 109, n ≤ reachBytes) :
    ∃ e : EntV, EntM W W.heap.size (a.add (i * 3)) e ∧ e.ns.length * 8 ≤ 140737488351232 ∧ InI e.ns := by
  obtain ⟨_, hcl, hat⟩ := World.cells?_some hc
  obtain ⟨xs, m, _, hy, _, hlen, hf⟩ := DataW.trod_struct ent_desc h
  have one : ∀ (j : Nat) (t : TypeId), [9, 9, 41][j]? = some t → j < 3 → ∃ v z, W.cell? ((a.add (i * 3)).add j) = some v ∧ xs[j]? = some z ∧ DataW.trod enc Try.prog W 0 (fun _ => true) true m t [v] = some z := by
    intro j t ht hj
    obtain ⟨f, hfj, rfl⟩ := ent_field ht
    obtain ⟨ho, hk⟩ := Go.Deep.hone_of ent_one j f hfj
    have h1 := hf j f hfj
    rw [ho, hk] at h1
    have hd : (cs'.drop j).take 1 = [cs'[j]'(by omega)] := by
      rw [List.drop_eq_getElem_cons (by omega)]
      rfl
    rw [hd] at h1
    have hjs : j < entFs.size := (Array.getElem?_eq_some_iff.1 hfj).1
    have hx : xs[j]? = some (xs[j]'(by omega)) := List.getElem?_eq_getElem (by omega)
    exact ⟨_, _, (hat j hj).trans (List.getElem?_eq_getElem (by omega)), hx, h1.trans hx⟩
  obtain ⟨v0, z0, c0, _, t0⟩ := one 0 _ rfl (by omega)
  obtain ⟨v1, z1, c1, _, t1⟩ := one 1 _ rfl (by omega)
  obtain ⟨v2, z2, c2, x2, t2⟩ := one 2 _ rfl (by omega)
  obtain ⟨s0, e0, _, hs0⟩ := DataW.trod_string Try.underlying9 t0
  obtain ⟨s1, e1, _, hs1⟩ := DataW.trod_string Try.underlying9 t1
  injection e0 with e0
  injection e1 with e1
  subst e0 e1
  have hw : ∀ n ∈ z2.1.weights Try.prog 41, n ≤ reachBytes := fun n hn => hsz n (by
    rw [hy]
    simp only [DataW.weights, ent_desc, ent_types]
    exact weights_each _ _ 2 41 z2.1 rfl (by rw [List.getElem?_map, x2]; rfl) n hn)
  obtain ⟨A, ln, cp, rfl⟩ : ∃ A ln cp, v2 = .slice A ln cp := by
    rcases open_ints Try.underlying41 Try.underlying2 (by kernel_rfl) t2 with ⟨hcs, _⟩ | ⟨x, l, c, zs, hcs, _⟩
    · injection hcs with hcs; exact ⟨_, _, _, hcs⟩
    · injection hcs with hcs; exact ⟨_, _, _, hcs⟩
  obtain ⟨d2, p2⟩ := z2
  obtain ⟨zs, q1, q2, q3, q4, q5, q6⟩ := openI64 (enc := enc) (W := W) (a := A) (len := ln) (cap := cp) (d := d2) (p := p2) ⟨m, t2⟩ (fun elems sp e => hw _ (by
    show _ ∈ d2.weights _ _
    rw [e]
    simp only [DataW.weights, Try.underlying41]
    exact List.mem_cons_self))
  have e0 : (a.add (i * 3)).add 0 = a.add (i * 3) := by rw [add_of_add]; rfl
  rw [e0] at c0
  rw [lit_add _ _ _ (by omega)] at c1 c2
  refine ⟨⟨s0, s1, zs⟩, ⟨World.block_lt_of_cell? W _ c0, c0, c1, A, ln, cp, c2, q1, q2, q3, q6, q5⟩, ?_, q6⟩
  show zs.length * 8 ≤ _
  omega
/-- one document that came in. -/
theorem open_doc {H : Type} {enc : TypeId × Value → H} {W : World} {v : Value} {n : Nat} {y : DataW H × List MemPlace}
    (h : DataW.trod enc Try.prog W 0 (fun _ => true) true n 71 [v] = some y) (hsz : ∀ n ∈ y.1.weights Try.prog 71, n ≤ reachBytes) :
    ∃ (R : Option Addr) (dn dc : Nat) (d : List EntV), v = .slice R dn dc ∧ d.length = dn ∧ dn ≤ dc ∧ dc ≤ maxLen ∧ RdE W W.heap.size R d ∧ d.length * 56 ≤ 140737488351232 ∧ ∀ e ∈ d, e.ns.length * 8 ≤ 140737488351232 ∧ InI e.ns := by
  rcases Go.Deep.open_slice Try.underlying71 h with ⟨hcs, _⟩ | ⟨x, l, c, m, f, D, Pl, hcs, _, hl, hm, hmm, hy, hel⟩
  · injection hcs with hcs
    exact ⟨none, 0, 0, [], hcs, rfl, Nat.le_refl _, Nat.zero_le _, fun k hk => by simp at hk, by simp, fun e he => by cases he⟩
  · injection hcs with hcs
    have hmc : m = c := hmm
    rw [ent_cells] at hel
    have hby : Try.prog.bytesOf 109 = 56 := by kernel_rfl
    have hall : ∀ i, i < l → ∃ e : EntV, EntM W W.heap.size (x.add (i * 3)) e ∧ e.ns.length * 8 ≤ 140737488351232 ∧ InI e.ns := by
      intro i hi
      obtain ⟨cs', h1, h2⟩ := hel i (by omega)
      refine open_ent h1 h2 (fun k hk => hsz k ?_)
      rw [hy]
      simp only [DataW.weights, Try.underlying71, List.mem_cons, List.mem_append]
      exact .inr (.inl (weights_all (List.mem_map.2 ⟨i, List.mem_range.2 hi, rfl⟩) k hk))
    obtain ⟨g, hg⟩ := Go.Deep.choose_lt hall
    refine ⟨some x, l, c, (List.range l).map g, hcs, by simp, hl, hm, ?_, ?_, ?_⟩
    · intro k hk
      have hk : k < l := by simpa using hk
      refine ⟨x, rfl, ?_⟩
      have e : ((List.range l).map g).getD k .none = g k := by
        rw [List.getD_eq_getElem?_getD, List.getElem?_map, List.getElem?_range hk]
        rfl
      rw [e]
      exact (hg k hk).1
    · have h1 := hsz ((((List.range l).map D).length + ((List.range (m - l)).map fun j => D (l + j)).length) * Try.prog.bytesOf 109) (by
        rw [hy]
        simp only [DataW.weights, Try.underlying71]
        exact List.mem_cons_self)
      rw [hby] at h1
      simp only [List.length_map, List.length_range] at h1 ⊢
      unfold reachBytes at h1
      omega
    · intro e he
      obtain ⟨k, hk, rfl⟩ := List.mem_map.1 he
      exact (hg k (List.mem_range.1 hk)).2
/-- documents that came in. -/
theorem openDocs {H : Type} {enc : TypeId × Value → H} {W : World} {a : Option Addr} {len cap : Nat} {d : DataW H} {p : List MemPlace}
    (h : DataW.Trod enc Try.prog W 0 (fun _ => true) true 57 (.slice a len cap) d p) (hsz : ∀ n ∈ d.weights Try.prog 57, n ≤ reachBytes) :
    ∃ ds : List (List EntV), ds.length = len ∧ len ≤ cap ∧ cap ≤ maxLen ∧ len * 24 ≤ 140737488351232 ∧ RdD W W.heap.size a ds ∧ DocsI ds ∧ ∀ d ∈ ds, (d.length + 1) * 56 ≤ 140737488355328 ∧ ∀ e ∈ d, (e.ns.length + 1) * 8 ≤ 140737488355328 := by
  obtain ⟨fuel, hf⟩ := h
  rcases Go.Deep.open_slice Try.underlying57 hf with ⟨hcs, _⟩ | ⟨x, l, c, m, f, D, Pl, hcs, _, hl, hm, hmm, hy, hel⟩
  · simp [Value.cells] at hcs
    obtain ⟨rfl, rfl, rfl⟩ := hcs
    exact ⟨[], rfl, Nat.le_refl _, Nat.zero_le _, by simp, fun k hk => by simp at hk, fun e he => (by cases he), fun e he => (by cases he)⟩
  · simp [Value.cells] at hcs
    obtain ⟨rfl, rfl, rfl⟩ := hcs
    have hmc : m = cap := hmm
    have hone : Try.prog.cellsOf 71 = 1 := by kernel_rfl
    rw [hone] at hel
    have hby : Try.prog.bytesOf 71 = 24 := by kernel_rfl
    injection hy with hy _
    have hall : ∀ i, i < len → ∃ d : List EntV, DocM W W.heap.size (x.add i) d ∧ d.length * 56 ≤ 140737488351232 ∧ ∀ e ∈ d, e.ns.length * 8 ≤ 140737488351232 ∧ InI e.ns := by
      intro i hi
      obtain ⟨cs', h1, h2⟩ := hel i (by omega)
      obtain ⟨_, hcl, hat⟩ := World.cells?_some h1
      match cs', hcl, hat, h2 with
      | [v], _, hat, h2 =>
        obtain ⟨R, dn, dc, d0, rfl, k1, k2, k3, k4, k5, k6⟩ := open_doc h2 (fun k hk => hsz k (by
          rw [hy]
          simp only [DataW.weights, Try.underlying57, List.mem_cons, List.mem_append]
          exact .inr (.inl (weights_all (List.mem_map.2 ⟨i, List.mem_range.2 hi, rfl⟩) k hk))))
        have hc := hat 0 (by omega)
        have e0 : (x.add (i * 1)).add 0 = x.add i := by rw [add_of_add, Nat.mul_one]; rfl
        rw [e0] at hc
        exact ⟨d0, ⟨World.block_lt_of_cell? W _ hc, R, dn, dc, hc, k1, k2, k3, k4⟩, k5, k6⟩
    obtain ⟨g, hg⟩ := Go.Deep.choose_lt hall
    refine ⟨(List.range len).map g, by simp, hl, hm, ?_, ?_, ?_, ?_⟩
    · have h1 := hsz ((((List.range len).map D).length + ((List.range (m - len)).map fun j => D (len + j)).length) * Try.prog.bytesOf 71) (by
        rw [hy]
        simp only [DataW.weights, Try.underlying57]
        exact List.mem_cons_self)
      rw [hby] at h1
      simp only [List.length_map, List.length_range] at h1
      unfold reachBytes at h1
      omega
    · intro k hk
      have hk : k < len := by simpa using hk
      refine ⟨x, rfl, ?_⟩
      have e : ((List.range len).map g).getD k [] = g k := by
        rw [List.getD_eq_getElem?_getD, List.getElem?_map, List.getElem?_range hk]
        rfl
      rw [e]
      exact (hg k hk).1
    · intro d hd e he
      obtain ⟨k, hk, rfl⟩ := List.mem_map.1 hd
      exact ((hg k (List.mem_range.1 hk)).2.2 e he).2
    · intro d hd
      obtain ⟨k, hk, rfl⟩ := List.mem_map.1 hd
      obtain ⟨_, h2, h3⟩ := hg k (List.mem_range.1 hk)
      exact ⟨by omega, fun e he => by have := (h3 e he).1; omega⟩
end Go.Proofs.Ytpnhnnhocekchaa
