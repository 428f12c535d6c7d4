/- Several texts in one: KitInt, Open, OpenPt, OpenI. -/
import Derived.Test.YtpopbkcbplmcaaaK11
import Derived.Test.YtpopbkcbplmcaaaRows
import Derived.ProofKit
import Derived.OpenShut
import Derived.ShutString
import Derived.ChangeOld
import Derived.Below
import Derived.SizedLaws
import Derived.HandedShaped
import Derived.Deep.Slices
import Derived.Deep.Fields
import Derived.ChangeSame
import Derived.IntWalk
namespace Go.Proofs.Ytpopbkcbplmcaaa
set_option linter.unusedVariables false
set_option linter.unusedSimpArgs false
open Go.RowKit

set_option maxRecDepth 100000 in
set_option maxHeartbeats 800000 in
theorem sameInt_any (A B : Option Addr) (n c m d b1 b2 : Nat) (xs ys : List Int) (w : World) (hx : xs.length = n) (hy : ys.length = m) (hn : n ≤ c) (hc : c ≤ maxLen) (hm : m ≤ d) (hd : d ≤ maxLen) (hr : Rd w b1 A (iz .i64 xs)) (hs : Rd w b2 B (iz .i64 ys)) :
    Calls Try.prog 23 #[.slice A n c, .slice B m d] w (RetQ (.bool (decide (xs = ys))) w) := by
  unfold maxLen at hc hd
  have HX := hide hx
  have HY := hide hy
  have HR := hide hr
  have HS := hide hs
  clear hx hy hr hs
  by_cases hnm : n = m
  · subst hnm
    have hb : ((n : Int) != n) = false := by simp
    go_enter Try.func23, Try.ntmps23
    go_wp2
    go_loopw [5] (fun i wr => ∃ k nq : Nat, k ≤ n ∧ i = .int .i64 k ∧ wr = w.drewN nq ∧ Hid (xs.take k = ys.take k)) (fun i _ => n - (intOf i).toNat)
    case atStart => exact ⟨0, 0, by omega, rfl, rfl, hide rfl⟩
    case round =>
      obtain ⟨k, nq, hk, rfl, rfl, HT⟩ := hrel
      by_cases hlt : k < n
      · have h1 : k < xs.length := by rw [HX.out]; exact hlt
        have h2 : k < ys.length := by rw [HY.out]; exact hlt
        obtain ⟨ad, rfl, _, hcell⟩ := HR.out.intAt h1
        obtain ⟨bd, rfl, _, hcell2⟩ := HS.out.intAt h2
        have HE := hide (fun he => take_succ_int h1 h2 HT.out he)
        have HN := hide (show xs.getD k 0 ≠ ys.getD k 0 → xs ≠ ys from fun h e => h (by rw [e]))
        clear h1 h2
        generalize xs.getD k 0 = x at hcell HE HN
        generalize ys.getD k 0 = y at hcell2 HE HN
        by_cases he : x = y
        · subst he
          have HE' := hide (HE.out rfl)
          clear HE
          have hb2 : (x != x) = false := by simp
          go_wp2
          go_quiet (fail)
          go_wp2
          go_round
          case rel => exact ⟨k + 1, _, by omega, by go_num, rfl, HE'⟩
          case measure => simp [intOf]; omega
        · have hb2 : (x != y) = true := by simpa using he
          have HF := hide (HN.out he)
          clear HN HE he
          go_wp2
          go_quiet (fail)
          go_wp2
          go_ret
          exact ⟨by simp [HF.out], _, World.drewN_drewN _ _ _⟩
      · have HF := hide (show xs = ys by
          have h := HT.out
          rwa [List.take_of_length_le (by rw [HX.out]; omega), List.take_of_length_le (by rw [HY.out]; omega)] at h)
        go_wp2
        go_ret
        exact ⟨by simp [HF.out], _, rfl⟩
  · have hb : ((n : Int) != m) = true := by simp; omega
    have HF := hide (show xs ≠ ys from fun e => hnm (by rw [← HX.out, ← HY.out, e]))
    go_enter Try.func23, Try.ntmps23
    go_wp2
    go_ret
    exact ⟨by simp [HF.out], 0, rfl⟩

end Go.Proofs.Ytpopbkcbplmcaaa
namespace Go.Proofs.Ytpopbkcbplmcaaa
set_option linter.unusedVariables false
set_option linter.unusedSimpArgs false
open Go.ChangeShapes Go.WideShapes Go.ChangeAt Go.RowKit

theorem Try.own : ownKnob Try.prog.godebug = none := by kernel_rfl
theorem Try.laidOut : laidOutB Try.prog = true := by kernel_rfl

/-- bytes that came in. -/
theorem open8 {H : Type} {enc : TypeId × Value → H} {W : World} {a : Option Addr} {len cap : Nat} {d : DataW H} {p : List MemPlace}
    (h : DataW.Trod enc Try.prog W 0 (fun _ => true) true 33 (.slice a len cap) d p)
    (hsz : ∀ elems spare, d = .slice elems spare → (elems.length + spare.length) * Try.prog.bytesOf 5 ≤ reachBytes) :
    ∃ bs : List UInt8, bs.length = len ∧ len ≤ cap ∧ cap ≤ maxLen ∧ cap ≤ 140737488351232 ∧ Rd W W.heap.size a (by8 bs) := by
  obtain ⟨fuel, hf⟩ := h
  rcases open_ints Try.underlying33 Try.underlying5 (by kernel_rfl) hf with ⟨hcs, _⟩ | ⟨x, l, c, zs, hcs, _, hl, hm, hz, hd, hcell, hwz⟩
  · simp [Value.cells] at hcs
    obtain ⟨rfl, rfl, rfl⟩ := hcs
    exact ⟨[], rfl, Nat.le_refl _, Nat.zero_le _, Nat.zero_le _, Rd.nil _ _ _⟩
  · simp [Value.cells] at hcs
    obtain ⟨rfl, rfl, rfl⟩ := hcs
    injection hd with hd _
    have hz : zs.length = cap := by simpa using hz
    have hs := hsz _ _ hd
    have hby : Try.prog.bytesOf 5 = 1 := by kernel_rfl
    rw [hby] at hs
    have hlen : (lits (H := H) .u8 (zs.take len)).length + (lits (H := H) .u8 (zs.drop len)).length = cap := by simp [lits]; omega
    rw [hlen] at hs
    refine ⟨(zs.take len).map fun n => UInt8.ofNat n.toNat, by simp; omega, hl, hm, by simpa [reachBytes] using hs, ?_⟩
    intro j u hu
    simp only [by8, List.map_map, List.getElem?_map, List.getElem?_take] at hu
    split at hu
    · rename_i hj
      have hjz : j < zs.length := by omega
      rw [List.getElem?_eq_getElem hjz] at hu
      injection hu with hu
      have hc := hcell j hjz
      have hw := hwz zs[j] (List.getElem_mem hjz)
      have hb : 0 ≤ zs[j] ∧ zs[j] ≤ 255 := by simpa [Lit.wf, IntKind.min, IntKind.max, IntKind.signed, IntKind.bits] using hw
      have hv : (((UInt8.ofNat zs[j].toNat).toNat : Nat) : Int) = zs[j] := by
        have h1 : (UInt8.ofNat zs[j].toNat).toNat = zs[j].toNat := by simp [UInt8.toNat_ofNat]; omega
        rw [h1]; omega
      have he : zs.getD j 0 = zs[j] := by simp [List.getElem?_eq_getElem hjz]
      rw [he] at hc
      refine ⟨x, rfl, ?_, ?_⟩
      · have := World.block_lt_of_cell? W _ hc
        rwa [block_of_add] at this
      · rw [hc, ← hu]
        simp only [Function.comp_apply, hv]
    · cases hu
end Go.Proofs.Ytpopbkcbplmcaaa
namespace Go.Proofs.Ytpopbkcbplmcaaa
set_option linter.unusedVariables false
set_option linter.unusedSimpArgs false
open Go.ChangeShapes Go.WideShapes Go.ChangeAt Go.RowKit

theorem weights_all {H : Type} {e : TypeId} {l : List (DataW H)} {d : DataW H} (h : d ∈ l) : ∀ n ∈ d.weights Try.prog e, n ∈ DataW.weightsAll Try.prog e l := by
  induction l with
  | nil => cases h
  | cons x r ih =>
    intro n hn
    simp only [DataW.weightsAll, List.mem_append]
    rcases List.mem_cons.1 h with rfl | h
    · exact .inl hn
    · exact .inr (ih h n hn)
/-- the fields of a struct's type. -/
def fsOf : Option TypeDesc → Array Field
  | some (.struct fs) => fs
  | _ => #[]
noncomputable def poFs : Array Field := fsOf (Try.prog.underlying 60)
theorem po_desc : Try.prog.underlying 60 = some (.struct poFs) := by kernel_rfl
theorem po_one : Go.Deep.oneCellFields Try.prog poFs = true := by kernel_rfl
theorem po_cells : Try.prog.cellsOf 60 = 2 := by kernel_rfl
theorem po_types : poFs.toList.map (·.type) = [3, 23] := by kernel_rfl
theorem po_field {j : Nat} {t : TypeId} (h : [3, 23][j]? = some t) : ∃ f, poFs[j]? = some f ∧ f.type = t := by
  rw [← po_types, List.getElem?_map] at h
  obtain ⟨f, hf, rfl⟩ := Option.map_eq_some_iff.1 h
  exact ⟨f, by simpa using hf, rfl⟩
theorem int_of_trod {H : Type} {enc : TypeId × Value → H} {W : World} {fuel : Nat} {v : Value} {y : DataW H × List MemPlace}
    (h : DataW.trod enc Try.prog W 0 (fun _ => true) true fuel 3 [v] = some y) : ∃ n : Int, v = .int .i64 n ∧ -9223372036854775808 ≤ n ∧ n ≤ 9223372036854775807 := by
  obtain ⟨n, e1, _, e3⟩ := DataW.trod_int Try.underlying3 h
  injection e1 with e1
  exact ⟨n, e1, by simpa [Lit.wf, IntKind.min, IntKind.max, IntKind.signed, IntKind.bits] using e3⟩
theorem openIz {H : Type} {enc : TypeId × Value → H} {W : World} {a : Option Addr} {len cap : Nat} {d : DataW H} {p : List MemPlace}
    (h : DataW.Trod enc Try.prog W 0 (fun _ => true) true 23 (.slice a len cap) d p)
    (hsz : ∀ elems spare, d = .slice elems spare → (elems.length + spare.length) * Try.prog.bytesOf 2 ≤ reachBytes) :
    ∃ zs : List Int, zs.length = len ∧ len ≤ cap ∧ cap ≤ maxLen ∧ cap * 8 ≤ 140737488351232 ∧ Rd W W.heap.size a (iz .i64 zs) ∧ ∀ z ∈ zs, -9223372036854775808 ≤ z ∧ z ≤ 9223372036854775807 := by
  obtain ⟨fuel, hf⟩ := h
  rcases open_ints Try.underlying23 Try.underlying2 (by kernel_rfl) hf with ⟨hcs, _⟩ | ⟨x, l, c, zs, hcs, _, hl, hm, hz, hd, hcell, hwz⟩
  · simp [Value.cells] at hcs
    obtain ⟨rfl, rfl, rfl⟩ := hcs
    exact ⟨[], rfl, Nat.le_refl _, Nat.zero_le _, Nat.zero_le _, Rd.nil _ _ _, fun z hz => by cases hz⟩
  · simp [Value.cells] at hcs
    obtain ⟨rfl, rfl, rfl⟩ := hcs
    injection hd with hd _
    have hz : zs.length = cap := by simpa using hz
    have hs := hsz _ _ hd
    have hby : Try.prog.bytesOf 2 = 8 := by kernel_rfl
    rw [hby] at hs
    have hlen : (lits (H := H) .i64 (zs.take len)).length + (lits (H := H) .i64 (zs.drop len)).length = cap := by simp [lits]; omega
    rw [hlen] at hs
    refine ⟨zs.take len, by simp; omega, hl, hm, by simpa [reachBytes] using hs, ?_, ?_⟩
    · intro j u hu
      simp only [iz, List.getElem?_map, List.getElem?_take] at hu
      split at hu
      · rename_i hj
        have hjz : j < zs.length := by omega
        rw [List.getElem?_eq_getElem hjz] at hu
        injection hu with hu
        have hc := hcell j hjz
        have he : zs.getD j 0 = zs[j] := by simp [List.getElem?_eq_getElem hjz]
        rw [he] at hc
        refine ⟨x, rfl, ?_, by rw [hc, ← hu]⟩
        have := World.block_lt_of_cell? W _ hc
        rwa [block_of_add] at this
      · cases hu
    · intro z hz2
      have hw := hwz z (List.mem_of_mem_take hz2)
      simpa [Lit.wf, IntKind.min, IntKind.max, IntKind.signed, IntKind.bits] using hw

theorem weights_each {H : Type} : ∀ (ts : List TypeId) (ds : List (DataW H)) (j : Nat) (t : TypeId) (d : DataW H), ts[j]? = some t → ds[j]? = some d → ∀ n ∈ d.weights Try.prog t, n ∈ DataW.weightsEach Try.prog ts ds
  | [], _, j, t, d, h, _ => by simp at h
  | _ :: _, [], j, t, d, _, h => by simp at h
  | t0 :: ts, d0 :: ds, 0, t, d, h1, h2 => by
    simp at h1 h2
    subst h1 h2
    intro n hn
    simp only [DataW.weightsEach, List.mem_append]
    exact .inl hn
  | t0 :: ts, d0 :: ds, j + 1, t, d, h1, h2 => by
    simp at h1 h2
    intro n hn
    simp only [DataW.weightsEach, List.mem_append]
    exact .inr (weights_each ts ds j t d h1 h2 n hn)

/-- one post that came in. -/
theorem open_po {H : Type} {enc : TypeId × Value → H} {W : World} {a : Addr} {i n : Nat} {cs' : List Value} {y : DataW H × List MemPlace}
    (hc : W.cells? 0 (a.add (i * 2)) 2 = some cs') (h : DataW.trod enc Try.prog W 0 (fun _ => true) true n 60 cs' = some y) (hsz : ∀ n ∈ y.1.weights Try.prog 60, n ≤ reachBytes) :
    ∃ p : PoL, (W.cell? (a.add (i * 2)) = some (.int .i64 p.1.1) ∧ W.cell? (a.add (i * 2 + 1)) = some (.slice p.2.1 p.1.2.length p.2.2)) ∧ (p.1.2.length ≤ p.2.2 ∧ p.2.2 ≤ maxLen ∧ Rd W W.heap.size p.2.1 (iz .i64 p.1.2)) ∧ p.1.2.length * 8 ≤ 140737488351232 ∧ InI p.1.2 ∧ -9223372036854775808 ≤ p.1.1 ∧ p.1.1 ≤ 9223372036854775807 := by
  obtain ⟨_, hcl, hat⟩ := World.cells?_some hc
  obtain ⟨xs, m, _, hy, _, hlen, hf⟩ := DataW.trod_struct po_desc h
  have one : ∀ (j : Nat) (t : TypeId), [3, 23][j]? = some t → j < 2 → ∃ v z, W.cell? ((a.add (i * 2)).add j) = some v ∧ xs[j]? = some z ∧ DataW.trod enc Try.prog W 0 (fun _ => true) true m t [v] = some z := by
    intro j t ht hj
    obtain ⟨f, hfj, rfl⟩ := po_field ht
    obtain ⟨ho, hk⟩ := Go.Deep.hone_of po_one j f hfj
    have h1 := hf j f hfj
    rw [ho, hk] at h1
    have hd : (cs'.drop j).take 1 = [cs'[j]'(by omega)] := by
      rw [List.drop_eq_getElem_cons (by omega)]
      rfl
    rw [hd] at h1
    have hjs : j < poFs.size := (Array.getElem?_eq_some_iff.1 hfj).1
    have hx : xs[j]? = some (xs[j]'(by omega)) := List.getElem?_eq_getElem (by omega)
    exact ⟨_, _, (hat j hj).trans (List.getElem?_eq_getElem (by omega)), hx, h1.trans hx⟩
  obtain ⟨v0, z0, c0, _, t0⟩ := one 0 _ rfl (by omega)
  obtain ⟨v2, z2, c2, x2, t2⟩ := one 1 _ rfl (by omega)
  obtain ⟨d0, rfl, hd1, hd2⟩ := int_of_trod t0
  have hw : ∀ n ∈ z2.1.weights Try.prog 23, n ≤ reachBytes := fun n hn => hsz n (by
    rw [hy]
    simp only [DataW.weights, po_desc, po_types]
    exact weights_each _ _ 1 23 z2.1 rfl (by rw [List.getElem?_map, x2]; rfl) n hn)
  obtain ⟨A, ln, cp, rfl⟩ : ∃ A ln cp, v2 = .slice A ln cp := by
    rcases open_ints Try.underlying23 Try.underlying2 (by kernel_rfl) t2 with ⟨hcs, _⟩ | ⟨x, l, c, zs, hcs, _⟩
    · injection hcs with hcs; exact ⟨_, _, _, hcs⟩
    · injection hcs with hcs; exact ⟨_, _, _, hcs⟩
  obtain ⟨d2, p2⟩ := z2
  obtain ⟨zs, q1, q2, q3, q4, q5, q6⟩ := openIz (enc := enc) (W := W) (a := A) (len := ln) (cap := cp) (d := d2) (p := p2) ⟨m, t2⟩ (fun elems sp e => hw _ (by
    show _ ∈ d2.weights _ _
    rw [e]
    simp only [DataW.weights, Try.underlying23]
    exact List.mem_cons_self))
  have e0 : (a.add (i * 2)).add 0 = a.add (i * 2) := by rw [add_of_add]; rfl
  rw [e0] at c0
  rw [add_of_add] at c2
  refine ⟨((d0, zs), A, cp), ⟨c0, ?_⟩, ⟨?_, q3, q5⟩, ?_, q6, hd1, hd2⟩
  · show _ = some (Value.slice A zs.length cp)
    rw [q1]; exact c2
  · show zs.length ≤ cp
    omega
  · show zs.length * 8 ≤ _
    omega
/-- posts that came in. -/
theorem openPt {H : Type} {enc : TypeId × Value → H} {W : World} {a : Option Addr} {len cap : Nat} {d : DataW H} {p : List MemPlace}
    (h : DataW.Trod enc Try.prog W 0 (fun _ => true) true 22 (.slice a len cap) d p) (hsz : ∀ n ∈ d.weights Try.prog 22, n ≤ reachBytes) :
    ∃ l : List Po, l.length = len ∧ len ≤ cap ∧ cap ≤ maxLen ∧ len * 32 ≤ 140737488351232 ∧ RdPo W W.heap.size a l ∧ InI2 l ∧ ∀ e ∈ l, (e.2.length + 1) * 8 ≤ 140737488355328 := by
  obtain ⟨fuel, hf⟩ := h
  rcases Go.Deep.open_slice Try.underlying22 hf with ⟨hcs, _⟩ | ⟨x, l, c, m, f, D, Pl, hcs, _, hl, hm, hmm, hy, hel⟩
  · simp [Value.cells] at hcs
    obtain ⟨rfl, rfl, rfl⟩ := hcs
    exact ⟨[], rfl, Nat.le_refl _, Nat.zero_le _, by simp, RdPo.nil _ _, fun e he => (by cases he), fun e he => (by cases he)⟩
  · simp [Value.cells] at hcs
    obtain ⟨rfl, rfl, rfl⟩ := hcs
    have hmc : m = cap := hmm
    rw [po_cells] at hel
    have hby : Try.prog.bytesOf 60 = 32 := by kernel_rfl
    injection hy with hy _
    have hall : ∀ i, i < len → ∃ p : PoL, (W.cell? (x.add (i * 2)) = some (.int .i64 p.1.1) ∧ W.cell? (x.add (i * 2 + 1)) = some (.slice p.2.1 p.1.2.length p.2.2)) ∧ (p.1.2.length ≤ p.2.2 ∧ p.2.2 ≤ maxLen ∧ Rd W W.heap.size p.2.1 (iz .i64 p.1.2)) ∧ p.1.2.length * 8 ≤ 140737488351232 ∧ InI p.1.2 ∧ -9223372036854775808 ≤ p.1.1 ∧ p.1.1 ≤ 9223372036854775807 := by
      intro i hi
      obtain ⟨cs', h1, h2⟩ := hel i (by omega)
      refine open_po h1 h2 (fun k hk => hsz k ?_)
      rw [hy]
      simp only [DataW.weights, Try.underlying22, List.mem_cons, List.mem_append]
      exact .inr (.inl (weights_all (List.mem_map.2 ⟨i, List.mem_range.2 hi, rfl⟩) k hk))
    obtain ⟨g, hg⟩ := Go.Deep.choose_lt hall
    have hpl : ((List.range len).map g).length = len := by simp
    refine ⟨((List.range len).map g).map (·.1), by simp, hl, hm, ?_, ⟨(List.range len).map g, rfl, ?_, fun p hp => ?_⟩, fun e he => ?_, fun e he => ?_⟩
    · have h1 := hsz ((((List.range len).map D).length + ((List.range (m - len)).map fun j => D (len + j)).length) * Try.prog.bytesOf 60) (by
        rw [hy]
        simp only [DataW.weights, Try.underlying22]
        exact List.mem_cons_self)
      rw [hby] at h1
      simp only [List.length_map, List.length_range] at h1
      unfold reachBytes at h1
      omega
    · intro j u hu
      have hj := (List.getElem?_eq_some_iff.1 hu).1
      rw [pFlat_len, hpl] at hj
      have hk : j / 2 < len := by omega
      have hp : ((List.range len).map g)[j / 2]? = some (g (j / 2)) := by rw [List.getElem?_map, List.getElem?_range hk]; rfl
      obtain ⟨a1, a2⟩ := pFlat_at hp
      obtain ⟨⟨g1, g2⟩, _⟩ := hg _ hk
      rcases Nat.mod_two_eq_zero_or_one j with e | e
      · rw [show j = j / 2 * 2 by omega] at hu ⊢
        rw [a1] at hu
        injection hu with hu
        subst hu
        refine ⟨x, rfl, ?_, g1⟩
        have := World.block_lt_of_cell? W _ g1
        rwa [block_of_add] at this
      · rw [show j = j / 2 * 2 + 1 by omega] at hu ⊢
        rw [a2] at hu
        injection hu with hu
        subst hu
        refine ⟨x, rfl, ?_, g2⟩
        have := World.block_lt_of_cell? W _ g2
        rwa [block_of_add] at this
    · obtain ⟨k, hk, rfl⟩ := List.mem_map.1 hp
      exact (hg k (List.mem_range.1 hk)).2.1
    · obtain ⟨p, hp, rfl⟩ := List.mem_map.1 he
      obtain ⟨k, hk, rfl⟩ := List.mem_map.1 hp
      exact (hg k (List.mem_range.1 hk)).2.2.2
    · obtain ⟨p, hp, rfl⟩ := List.mem_map.1 he
      obtain ⟨k, hk, rfl⟩ := List.mem_map.1 hp
      have := (hg k (List.mem_range.1 hk)).2.2.1
      omega
end Go.Proofs.Ytpopbkcbplmcaaa
namespace Go.Proofs.Ytpopbkcbplmcaaa
set_option linter.unusedVariables false
set_option linter.unusedSimpArgs false
open Go.ChangeShapes Go.WideShapes Go.ChangeAt Go.RowKit

theorem openI64 {H : Type} {enc : TypeId × Value → H} {W : World} {a : Option Addr} {len cap : Nat} {d : DataW H} {p : List MemPlace}
    (h : DataW.Trod enc Try.prog W 0 (fun _ => true) true 23 (.slice a len cap) d p)
    (hsz : ∀ elems spare, d = .slice elems spare → (elems.length + spare.length) * Try.prog.bytesOf 2 ≤ reachBytes) :
    ∃ zs : List Int, zs.length = len ∧ len ≤ cap ∧ cap ≤ maxLen ∧ cap * 8 ≤ 140737488351232 ∧ Rd W W.heap.size a (iz .i64 zs) ∧ ∀ z ∈ zs, -9223372036854775808 ≤ z ∧ z ≤ 9223372036854775807 := by
  obtain ⟨fuel, hf⟩ := h
  rcases open_ints Try.underlying23 Try.underlying2 (by kernel_rfl) hf with ⟨hcs, _⟩ | ⟨x, l, c, zs, hcs, _, hl, hm, hz, hd, hcell, hwz⟩
  · simp [Value.cells] at hcs
    obtain ⟨rfl, rfl, rfl⟩ := hcs
    exact ⟨[], rfl, Nat.le_refl _, Nat.zero_le _, Nat.zero_le _, Rd.nil _ _ _, fun z hz => by cases hz⟩
  · simp [Value.cells] at hcs
    obtain ⟨rfl, rfl, rfl⟩ := hcs
    injection hd with hd _
    have hz : zs.length = cap := by simpa using hz
    have hs := hsz _ _ hd
    have hby : Try.prog.bytesOf 2 = 8 := by kernel_rfl
    rw [hby] at hs
    have hlen : (lits (H := H) .i64 (zs.take len)).length + (lits (H := H) .i64 (zs.drop len)).length = cap := by simp [lits]; omega
    rw [hlen] at hs
    refine ⟨zs.take len, by simp; omega, hl, hm, by simpa [reachBytes] using hs, ?_, ?_⟩
    · intro j u hu
      simp only [iz, List.getElem?_map, List.getElem?_take] at hu
      split at hu
      · rename_i hj
        have hjz : j < zs.length := by omega
        rw [List.getElem?_eq_getElem hjz] at hu
        injection hu with hu
        have hc := hcell j hjz
        have he : zs.getD j 0 = zs[j] := by simp [List.getElem?_eq_getElem hjz]
        rw [he] at hc
        refine ⟨x, rfl, ?_, by rw [hc, ← hu]⟩
        have := World.block_lt_of_cell? W _ hc
        rwa [block_of_add] at this
      · cases hu
    · intro z hz2
      have hw := hwz z (List.mem_of_mem_take hz2)
      simpa [Lit.wf, IntKind.min, IntKind.max, IntKind.signed, IntKind.bits] using hw

end Go.Proofs.Ytpopbkcbplmcaaa
