/- Several texts in one: VaSo, SortL, Open, RowsI, VaSd, VaNu, VaLe. -/
import Derived.Test.YtnjcncidlhllmaaGreatK9
import Derived.Shelf.Lay
import Derived.Shelf.SlGeneric
import Derived.Shelf.SortM.Plain
import Derived.Shelf.SortM.SortNone
import Derived.Ground.SlgmProg
import Derived.Sort.OwnSortedInts
import Derived.Test.YtnjcncidlhllmaaGreatRows
import Derived.ProofKit
import Derived.OpenShut
import Derived.ShutString
import Derived.ChangeOld
import Derived.Below
import Derived.SizedLaws
import Derived.HandedShaped
import Derived.Deep.Matrix
namespace Go.Proofs.YtnjcncidlhllmaaGreat
set_option linter.unusedVariables false
set_option linter.unusedSimpArgs false
open Go.RowKit

theorem sortI_nil : sortI [] = [] := by simp [sortI]
/-- x set in at place k. -/
def insV (s : List Int) (k : Nat) (x : Int) : List Int := s.take k ++ x :: s.drop k
theorem insV_len {s : List Int} {k : Nat} (x : Int) (h : k ≤ s.length) : (insV s k x).length = s.length + 1 := by simp only [insV, List.length_append, List.length_take, List.length_cons, List.length_drop]; omega
theorem insV_end (s : List Int) (x : Int) : s ++ [x] = insV s s.length x := by simp [insV]
theorem insV_at {s : List Int} {k : Nat} (x : Int) (h : k ≤ s.length) : (insV s k x).getD k 0 = x := by
  have hl : (s.take k).length = k := by rw [List.length_take]; omega
  rw [insV, List.getD, List.getElem?_append_right (by omega), hl, Nat.sub_self]
  rfl
theorem take_one {s : List Int} {k : Nat} (h : k < s.length) : s.take (k + 1) = s.take k ++ [s.getD k 0] ∧ s.drop k = s.getD k 0 :: s.drop (k + 1) := by
  have e : s.getD k 0 = s[k] := by rw [List.getD, List.getElem?_eq_getElem h]; rfl
  rw [e]
  exact ⟨List.take_succ_eq_append_getElem h, List.drop_eq_getElem_cons h⟩
theorem insV_lt {s : List Int} {k : Nat} (x : Int) (h : k < s.length) : (insV s (k + 1) x).getD k 0 = s.getD k 0 := by
  have h1 : k < (s.take (k + 1)).length := by rw [List.length_take]; omega
  rw [insV, List.getD, List.getElem?_append_left h1, List.getElem?_take_of_lt (by omega), List.getD]
theorem set_two (a b : List Int) (y x : Int) : ((a ++ y :: x :: b).set (a.length + 1) y).set a.length x = a ++ x :: y :: b := by
  induction a with
  | nil => rfl
  | cons u a ih => simp [ih]
theorem insV_set {s : List Int} {k : Nat} (x : Int) (h : k < s.length) : ((insV s (k + 1) x).set (k + 1) (s.getD k 0)).set k x = insV s k x := by
  obtain ⟨h1, h2⟩ := take_one h
  have hl : (s.take k).length = k := by rw [List.length_take]; omega
  have := set_two (s.take k) (s.drop (k + 1)) (s.getD k 0) x
  rw [hl] at this
  rw [insV, insV, h1, h2, List.append_assoc]
  exact this
theorem insV_perm (s : List Int) (k : Nat) (x : Int) : (insV s k x).Perm (x :: s) := by
  have := List.perm_middle (a := x) (l₁ := s.take k) (l₂ := s.drop k)
  rwa [List.take_append_drop] at this
/-- the place is found. -/
theorem insV_up {s : List Int} {k : Nat} {x : Int} (hs : upI s) (h1 : ∀ b ∈ s.drop k, x ≤ b) (h2 : k = 0 ∨ (k - 1 < s.length ∧ s.getD (k - 1) 0 ≤ x)) : upI (insV s k x) := by
  unfold insV
  have hs' := hs
  unfold upI at hs' ⊢
  rw [← List.take_append_drop k s, List.pairwise_append] at hs'
  obtain ⟨p1, p2, p3⟩ := hs'
  rw [List.pairwise_append]
  refine ⟨p1, List.pairwise_cons.2 ⟨h1, p2⟩, fun a ha b hb => ?_⟩
  rcases List.mem_cons.1 hb with rfl | hb
  · rcases h2 with rfl | ⟨hl, h2⟩
    · simp at ha
    · by_cases hk : k = 0
      · subst hk; simp at ha
      · obtain ⟨e, _⟩ := take_one hl
        rw [show k - 1 + 1 = k by omega] at e
        rw [e] at ha p1
        rw [List.pairwise_append] at p1
        rcases List.mem_append.1 ha with ha | ha
        · have := p1.2.2 a ha _ (List.mem_singleton.2 rfl)
          omega
        · rw [List.mem_singleton.1 ha]
          exact h2
  · exact p3 a ha b hb
theorem insV_done {l : List Int} {i k : Nat} (hi : i < l.length) (h1 : ∀ b ∈ (sortI (l.take i)).drop k, l.getD i 0 ≤ b) (h2 : k = 0 ∨ (k - 1 < (sortI (l.take i)).length ∧ (sortI (l.take i)).getD (k - 1) 0 ≤ l.getD i 0)) :
    insV (sortI (l.take i)) k (l.getD i 0) = sortI (l.take (i + 1)) := by
  refine sorted_uniq (insV_up (sortI_up _) h1 h2) (sortI_up _) ?_
  refine (insV_perm _ _ _).trans (List.Perm.trans ?_ (sortI_perm _).symm)
  rw [(take_one hi).1]
  exact ((sortI_perm _).cons _).trans (List.perm_append_comm (l₁ := [l.getD i 0]))
theorem insV_ge {s : List Int} {k : Nat} {x : Int} (h : k < s.length) (h1 : ∀ b ∈ s.drop (k + 1), x ≤ b) (h2 : x < s.getD k 0) : ∀ b ∈ s.drop k, x ≤ b := by
  intro b hb
  rw [(take_one h).2] at hb
  rcases List.mem_cons.1 hb with rfl | hb
  · omega
  · exact h1 b hb
def GivesL (w : World) (xs : List Int) (en : Ending) (w' : World) : Prop := ∃ v, en = .returned v ∧ Own w' w.heap.size 2 1 v xs.length (iz .i64 xs) ∧ Fr No w w'
set_option maxRecDepth 100000 in
set_option maxHeartbeats 2000000 in
theorem refSorted_any (A : Option Addr) (n c B : Nat) (l : List Int) (w : World) (hl : l.length = n) (hn : n ≤ c) (hc : c ≤ maxLen) (hb : n ≤ 16384) (hB : B ≤ w.heap.size) (hr : Rd w B A (iz .i64 l)) :
    Calls Tryz.prog 88 #[.slice A n c] w (GivesL w (sortI l)) := by
  obtain ⟨i1, hi1, hz1, hsz1, hby1⟩ := info_parts Tryz.infoKI64
  unfold maxLen at hc
  have HR := hide hr
  have HL := hide hl
  clear hr hl
  go_enter Tryz.func88, Tryz.ntmps88
  go_wp2
  go_loopw [3, 4, 5, 6] (fun v3 i _ _ wr => ∃ k : Nat, k ≤ n ∧ i = .int .i64 (k : Nat) ∧ Hid (Fr No w wr) ∧ Hid (Own wr w.heap.size 2 1 v3 k (iz .i64 (sortI (l.take k))))) (fun _ i _ _ _ => n - (intOf i).toNat)
  case atStart => exact ⟨0, by omega, by go_num, hide (Fr.refl _ _), hide (by rw [List.take_zero, sortI_nil]; exact Own.nil _ _ _ _)⟩
  case round =>
    obtain ⟨k, hk, rfl, HFr, HO⟩ := hrel
    by_cases hlt : k < n
    · obtain ⟨ad, rfl, _, hcell⟩ := HR.out.intAt (j := k) (by rw [HL.out]; exact hlt)
      have hcell := HFr.out.cell hcell (fun h => h)
      obtain ⟨x, hx⟩ : ∃ x, x = l.getD k 0 := ⟨_, rfl⟩
      rw [← hx] at hcell
      have HX := hide hx
      clear hx
      have b1 : (k + 1) * 8 ≤ 140737488355328 := by omega
      have b2 : k + 1 ≤ maxLen := by unfold maxLen; omega
      have HS := hide (Src.one (P := Tryz.prog) wr (e := 2) Tryz.underlying41 (.int .i64 x) rfl)
      have HO' := hide (HO.out.fr0 ((Fr.refl No wr).alloc (.cells #[.int .i64 x] 2)))
      have b3 : w.heap.size ≤ (wr.alloc (.cells #[.int .i64 x] 2)).heap.size := by have := HFr.out.size; simp; omega
      obtain ⟨s, hs⟩ : ∃ s, s = sortI (l.take k) := ⟨_, rfl⟩
      have hsl : s.length = k := by rw [hs, sortI_len, List.length_take, HL.out]; omega
      rw [← hs] at HO'
      have HSI := hide hs
      have HSL := hide hsl
      clear hs hsl
      go_wp2_with (at_builtin; refine wpList_append_gen _ rfl (.tmp 13) (.tmp 18) 41 41 rfl w.heap.size 2 i1 (.int .i64 0) 1 8 Tryz.underlying41 hi1 hz1 hsz1 hby1 rfl u3 k _ rfl HO'.out _ 1 [.int .i64 x] rfl HS.out b1 b2 b3 ?_; intro v1 w1 hown hfr hat; have HF1 : Hid (Fr No w w1) := hide ((HFr.out.alloc _).own hfr (fun g hg => .inl (HO.out.lt g hg).1)); obtain ⟨g, c1, rfl, r1, r2, r3, r4⟩ := own_some hown (by omega); unfold maxLen at r2; have HO1 := hide hown; clear hown hfr hat)
      have ho1 := HO1.out
      rw [show iz .i64 s ++ [Value.int .i64 x] = iz .i64 (insV s k x) by rw [← HSL.out, ← insV_end, iz_append]; rfl] at ho1
      have HO2 := hide ho1
      have HA0 : Hid (∀ b ∈ s.drop k, x ≤ b) := hide (by intro b hb; rw [List.drop_of_length_le (by rw [HSL.out]; omega)] at hb; cases hb)
      clear ho1 HO1 HO' HS hcell
      go_loopw [5, 6] (fun i5 _ wx => ∃ q : Nat, q ≤ k ∧ i5 = .int .i64 (q : Nat) ∧ Hid (Fr No w wx) ∧ Hid (Own wx w.heap.size 2 1 (.slice (some ⟨g, 0, none⟩) (k + 1) c1) (k + 1) (iz .i64 (insV s q x))) ∧ Hid (∀ b ∈ s.drop q, x ≤ b)) (fun i5 _ _ => (intOf i5).toNat)
      case atStart => exact ⟨k, by omega, by go_num, HF1, HO2, HA0⟩
      case round =>
        clear HO2 HA0 HF1
        obtain ⟨q, hq, rfl, HFx, HOx, HAx⟩ := hrel
        by_cases h0 : q = 0
        · subst h0
          have HD := hide (insV_done (l := l) (i := k) (k := 0) (by rw [HL.out]; exact hlt) (by rw [← HSI.out, ← HX.out]; exact HAx.out) (.inl rfl))
          go_wp2
          go_quiet (fail)
          go_wp2
          go_roundw
          case rel => exact ⟨k + 1, by omega, by go_num, hide (HFx.out.drewN _), hide (by rw [← HD.out, ← HSI.out, ← HX.out]; exact HOx.out.fr0 ((Fr.refl No _).drewN _))⟩
          case measure => simp [intOf]; omega
        · obtain ⟨p, rfl⟩ : ∃ p, q = p + 1 := ⟨q - 1, by omega⟩
          have hps : p < s.length := by rw [HSL.out]; omega
          obtain ⟨hq1, hq2, hq3⟩ := HOx.out.put (k := p + 1) (by omega)
          obtain ⟨hp1, hp2, hp3⟩ := HOx.out.put (k := p) (by omega)
          have hil : (insV s (p + 1) x).length = k + 1 := by rw [insV_len x (by omega), HSL.out]
          rw [iz_at _ _ (by omega), insV_at x (by omega)] at hq1
          rw [iz_at _ _ (by omega), insV_lt x hps] at hp1
          obtain ⟨y, hy⟩ : ∃ y, y = s.getD p 0 := ⟨_, rfl⟩
          rw [← hy] at hp1
          have HY := hide hy
          have e1 : decide (0 < p + 1) = true := decide_eq_true (by omega)
          have e0 : decide ((0 : Int) < ((p + 1 : Nat) : Int)) = true := decide_eq_true (by omega)
          by_cases hgt : x < y
          · have e2 : decide (x < y) = true := decide_eq_true hgt
            have HGE := hide (insV_ge hps HAx.out (by rw [← HY.out]; exact hgt))
            have HST := hide (insV_set x hps)
            have HPS := hide hps
            clear hp3 hq3 hil hy h0 hps
            go_wp2
            go_quiet (fail)
            obtain ⟨w2, hw2⟩ : ∃ w2, w2 = wr.drewN nq := ⟨_, rfl⟩
            rw [← hw2]
            have ho2 : Own w2 w.heap.size 2 1 (.slice (some ⟨g, 0, none⟩) (k + 1) c1) (k + 1) (iz .i64 (insV s (p + 1) x)) := by rw [hw2]; exact HOx.out.fr0 ((Fr.refl No _).drewN _)
            have hf2 : Fr No w w2 := by rw [hw2]; exact HFx.out.drewN _
            have hq1' : w2.cell? ⟨g, p + 1, none⟩ = some (.int .i64 x) := by rw [hw2]; exact hq1
            have hp1' : w2.cell? ⟨g, p, none⟩ = some (.int .i64 y) := by rw [hw2]; exact hp1
            have hq2' : w2.frozen? ⟨g, p + 1, none⟩ = false := by rw [hw2]; exact hq2
            have hp2' : w2.frozen? ⟨g, p, none⟩ = false := by rw [hw2]; exact hp2
            have hs1 := (ho2.put (k := p + 1) (by omega)).2.2 (.int .i64 y)
            have hs2 := (hs1.put (k := p) (by omega)).2.2 (.int .i64 x)
            have HS2 := hide hs2
            have HF2 := hide hf2
            have HR4 := hide r4
            clear hw2 ho2 hf2 hq1 hp1 hq2 hp2 hs1 hs2 e0 e1 e2
            go_wp2
            go_roundw
            case rel =>
              refine ⟨p, by omega, by go_num, hide ?_, hide ?_, HGE⟩
              · exact (HF2.out.setCell (p := ⟨g, p + 1, none⟩) (fun hlt => by have : g < w.heap.size := hlt; omega) _).setCell (p := ⟨g, p, none⟩) (fun hlt => by have : g < w.heap.size := hlt; omega) _
              · rw [← HST.out, ← HY.out]
                have h := HS2.out
                rw [iz, ← List.map_set, ← List.map_set] at h
                exact h
            case measure => simp [intOf]
          · have e2 : decide (x < y) = false := decide_eq_false hgt
            have HD := hide (insV_done (l := l) (i := k) (k := p + 1) (by rw [HL.out]; exact hlt) (by rw [← HSI.out, ← HX.out]; exact HAx.out) (.inr ⟨by rw [← HSI.out]; exact hps, by rw [← HSI.out, ← HX.out]; show s.getD p 0 ≤ x; rw [← HY.out]; omega⟩))
            clear hp3 hq3 hil hy h0 hps
            go_wp2
            go_quiet (fail)
            go_wp2
            go_roundw
            case rel => exact ⟨k + 1, by omega, by go_num, hide (HFx.out.drewN _), hide (by rw [← HD.out, ← HSI.out, ← HX.out]; exact HOx.out.fr0 ((Fr.refl No _).drewN _))⟩
            case measure => simp [intOf]; omega
    · obtain rfl : k = n := by omega
      have htk : l.take k = l := List.take_of_length_le (by rw [HL.out]; omega)
      rw [htk] at HO
      go_wp2
      go_ret
      exact ⟨_, rfl, by rw [sortI_len, HL.out]; exact HO.out, HFr.out⟩
end Go.Proofs.YtnjcncidlhllmaaGreat
namespace Go.Proofs.YtnjcncidlhllmaaGreat
open Go.Shelf Go.RowKit Go.Lib Go.Sort
shelf_lay_g SlLaysM.n5 Slgm 5 at Tryz 66 as Tryz.sortI64
/-- a slice of the call's own, sorted. -/
theorem sort_any (base n c : Nat) (A : Option Addr) (xs : List Int) (w : World) (h : Own w base 2 1 (.slice A n c) n (iz .i64 xs)) (hb : n ≤ 4611686018427387903) :
    Calls Tryz.prog 66 #[.slice A n c] w (fun en w' => en = .returned (.tuple #[]) ∧ Own w' base 2 1 (.slice A n c) n (iz .i64 (sortI xs)) ∧ Fr (fun k => (Value.slice A n c).ownBlock = some k) w w') := by
  obtain ⟨hl, A', c', hv, hn, hm, hA⟩ := h
  injection hv with h1 h2 h3
  subst h1; subst h3
  rw [iz_len, Nat.mul_one] at hl
  rcases hA with ⟨rfl, rfl⟩ | ⟨g, cur, rfl, hb', hh, hcs, ht⟩
  · have h0 : n = 0 := by omega
    subst h0
    have hx : xs = [] := List.eq_nil_of_length_eq_zero hl
    subst hx
    refine (AnyM.slices_Sort_int_none Tryz.sortI64 none 0 w).mono ?_
    rintro en w' ⟨rfl, rfl⟩
    refine ⟨rfl, ?_, Fr.refl _ _⟩
    rw [sortI_nil]
    exact Own.nil _ _ _ _
  · have hH : Holds (Value.int .i64) w g 0 xs.toArray := holds_of_blockI hh (by rw [hl]; simpa [iz] using ht)
    have hc := AnyM.slices_Sort_int Tryz.sortI64 g 0 c xs w hH (Array.getElem?_eq_some_iff.1 hh).1 (by omega)
    rw [hl] at hc
    refine hc.mono ?_
    rintro en w' ⟨rfl, nn, os, rfl⟩
    have hsl : (xs.mergeSort fun x y => decide (x ≤ y)).length = xs.length := List.length_mergeSort xs
    have hsz : (xs.mergeSort fun x y => decide (x ≤ y)).length ≤ cur.size := by rw [hsl]; omega
    obtain ⟨g1, g2, g3, g4, g5⟩ := grownBy_sortedI (w := w) (g := g) (n := nn) (os := os) (xs.mergeSort fun x y => decide (x ≤ y)).toArray
    refine ⟨rfl, ⟨by rw [iz_len, sortI_len, hl]; omega, _, c, rfl, hn, hm, .inr ⟨g, _, rfl, hb', heap_sortedI _ hh, by simpa [putCells] using hcs, ?_⟩⟩, ⟨g1, g2, g3, g4, fun k hk hne => g5 k hk (fun e => hne e.symm)⟩⟩
    have := take_putCellsI cur (xs.mergeSort fun x y => decide (x ≤ y)) hsz
    rw [hsl, hl] at this
    rw [Nat.mul_one]
    exact this
end Go.Proofs.YtnjcncidlhllmaaGreat
namespace Go.Proofs.YtnjcncidlhllmaaGreat
set_option linter.unusedVariables false
set_option linter.unusedSimpArgs false
open Go.ChangeShapes Go.WideShapes Go.ChangeAt Go.RowKit

theorem Tryz.own : ownKnob Tryz.prog.godebug = none := by kernel_rfl
theorem Tryz.laidOut : laidOutB Tryz.prog = true := by kernel_rfl

/-- bytes that came in. -/
theorem open8 {H : Type} {enc : TypeId × Value → H} {W : World} {a : Option Addr} {len cap : Nat} {d : DataW H} {p : List MemPlace}
    (h : DataW.Trod enc Tryz.prog W 0 (fun _ => true) true 25 (.slice a len cap) d p)
    (hsz : ∀ elems spare, d = .slice elems spare → (elems.length + spare.length) * Tryz.prog.bytesOf 5 ≤ reachBytes) :
    ∃ bs : List UInt8, bs.length = len ∧ len ≤ cap ∧ cap ≤ maxLen ∧ cap ≤ 140737488351232 ∧ Rd W W.heap.size a (by8 bs) := by
  obtain ⟨fuel, hf⟩ := h
  rcases open_ints Tryz.underlying25 Tryz.underlying5 (by kernel_rfl) hf with ⟨hcs, _⟩ | ⟨x, l, c, zs, hcs, _, hl, hm, hz, hd, hcell, hwz⟩
  · simp [Value.cells] at hcs
    obtain ⟨rfl, rfl, rfl⟩ := hcs
    exact ⟨[], rfl, Nat.le_refl _, Nat.zero_le _, Nat.zero_le _, Rd.nil _ _ _⟩
  · simp [Value.cells] at hcs
    obtain ⟨rfl, rfl, rfl⟩ := hcs
    injection hd with hd _
    have hz : zs.length = cap := by simpa using hz
    have hs := hsz _ _ hd
    have hby : Tryz.prog.bytesOf 5 = 1 := by kernel_rfl
    rw [hby] at hs
    have hlen : (lits (H := H) .u8 (zs.take len)).length + (lits (H := H) .u8 (zs.drop len)).length = cap := by simp [lits]; omega
    rw [hlen] at hs
    refine ⟨(zs.take len).map fun n => UInt8.ofNat n.toNat, by simp; omega, hl, hm, by simpa [reachBytes] using hs, ?_⟩
    intro j u hu
    simp only [by8, List.map_map, List.getElem?_map, List.getElem?_take] at hu
    split at hu
    · rename_i hj
      have hjz : j < zs.length := by omega
      rw [List.getElem?_eq_getElem hjz] at hu
      injection hu with hu
      have hc := hcell j hjz
      have hw := hwz zs[j] (List.getElem_mem hjz)
      have hb : 0 ≤ zs[j] ∧ zs[j] ≤ 255 := by simpa [Lit.wf, IntKind.min, IntKind.max, IntKind.signed, IntKind.bits] using hw
      have hv : (((UInt8.ofNat zs[j].toNat).toNat : Nat) : Int) = zs[j] := by
        have h1 : (UInt8.ofNat zs[j].toNat).toNat = zs[j].toNat := by simp [UInt8.toNat_ofNat]; omega
        rw [h1]; omega
      have he : zs.getD j 0 = zs[j] := by simp [List.getElem?_eq_getElem hjz]
      rw [he] at hc
      refine ⟨x, rfl, ?_, ?_⟩
      · have := World.block_lt_of_cell? W _ hc
        rwa [block_of_add] at this
      · rw [hc, ← hu]
        simp only [Function.comp_apply, hv]
    · cases hu
end Go.Proofs.YtnjcncidlhllmaaGreat
namespace Go.Proofs.YtnjcncidlhllmaaGreat
set_option linter.unusedVariables false
set_option linter.unusedSimpArgs false
open Go.ChangeShapes Go.WideShapes Go.ChangeAt Go.RowKit

theorem weights_allI {H : Type} {e : TypeId} {l : List (DataW H)} {d : DataW H} (h : d ∈ l) : ∀ n ∈ d.weights Tryz.prog e, n ∈ DataW.weightsAll Tryz.prog e l := by
  induction l with
  | nil => cases h
  | cons x r ih =>
    intro n hn
    simp only [DataW.weightsAll, List.mem_append]
    rcases List.mem_cons.1 h with rfl | h
    · exact .inl hn
    · exact .inr (ih h n hn)

/-- lists of numbers that came in. -/
theorem openRowsI {H : Type} {enc : TypeId × Value → H} {W : World} {a : Option Addr} {len cap : Nat} {d : DataW H} {p : List MemPlace}
    (h : DataW.Trod enc Tryz.prog W 0 (fun _ => true) true 22 (.slice a len cap) d p) (hsz : ∀ n ∈ d.weights Tryz.prog 22, n ≤ reachBytes) :
    ∃ bss : List (List Int), bss.length = len ∧ len ≤ cap ∧ cap ≤ maxLen ∧ cap * 24 ≤ 140737488351232 ∧ ISl W W.heap.size a bss ∧ (∀ b ∈ bss, b.length * 8 ≤ 140737488351232) ∧ ∀ b ∈ bss, ∀ z ∈ b, -9223372036854775808 ≤ z ∧ z ≤ 9223372036854775807 := by
  obtain ⟨fuel, hf⟩ := h
  rcases Go.Deep.open_int_rows Tryz.underlying22 Tryz.underlying41 Tryz.underlying2 (by kernel_rfl) (by kernel_rfl) hf with ⟨hcs, _⟩ | ⟨x, l, c, A, L, C, Z, hcs, _, hl, hm, hd, hrow⟩
  · simp [Value.cells] at hcs
    obtain ⟨rfl, rfl, rfl⟩ := hcs
    exact ⟨[], rfl, Nat.le_refl _, Nat.zero_le _, Nat.zero_le _, fun j bs hj => by simp at hj, fun b hb => (by cases hb), fun b hb => (by cases hb)⟩
  · simp [Value.cells] at hcs
    obtain ⟨rfl, rfl, rfl⟩ := hcs
    injection hd with hd _
    subst hd
    have hby : Tryz.prog.bytesOf 2 = 8 := by kernel_rfl
    have hby2 : Tryz.prog.bytesOf 41 = 24 := by kernel_rfl
    have hc : cap * 24 ≤ 140737488351232 := by
      have := hsz _ (by simp only [DataW.weights, Tryz.underlying22]; exact List.mem_cons_self)
      rw [hby2] at this
      simp only [List.length_map, List.length_range] at this
      have e : len + (cap - len) = cap := by omega
      rw [e] at this
      simpa [reachBytes] using this
    have hrowlen : ∀ r, r < len → C r * 8 ≤ 140737488351232 := by
      intro r hr
      obtain ⟨_, h1, h2, h3, h4, h5, _⟩ := hrow r (by omega)
      cases hA : A r with
      | none => rw [h5 hA]; omega
      | some ad =>
        have hmem : Go.Deep.intRow (H := H) .i64 (A r) (L r) (Z r) ∈ (List.range len).map fun r => Go.Deep.intRow (H := H) .i64 (A r) (L r) (Z r) := List.mem_map.2 ⟨r, List.mem_range.2 hr, rfl⟩
        have h6 := weights_allI (e := 41) hmem
        have h7 := hsz _ (by
          simp only [DataW.weights, Tryz.underlying22, List.mem_cons, List.mem_append]
          refine .inr (.inl (h6 (((lits (H := H) .i64 ((Z r).take (L r))).length + (lits (H := H) .i64 ((Z r).drop (L r))).length) * Tryz.prog.bytesOf 2) ?_))
          simp only [Go.Deep.intRow, hA, DataW.weights, Tryz.underlying41]
          exact List.mem_cons_self)
        rw [hby] at h7
        have hlen : (lits (H := H) .i64 ((Z r).take (L r))).length + (lits (H := H) .i64 ((Z r).drop (L r))).length = C r := by simp [lits]; omega
        rw [hlen] at h7
        simpa [reachBytes] using h7
    refine ⟨(List.range len).map fun r => (Z r).take (L r), by simp, hl, hm, hc, ?_, ?_, ?_⟩
    · intro j bs hj
      have hjl : j < len := by
        rcases Nat.lt_or_ge j len with h | h
        · exact h
        · rw [List.getElem?_eq_none (by simpa using h)] at hj; cases hj
      rw [List.getElem?_map, List.getElem?_range hjl] at hj
      simp only [Option.map_some, Option.some.injEq] at hj
      subst hj
      obtain ⟨h0, h1, h2, h3, h4, h5, h6⟩ := hrow j (by omega)
      have hll : ((Z j).take (L j)).length = L j := by simp; omega
      refine ⟨x, A j, C j, rfl, ?_, by rw [hll]; exact h0, by rw [hll]; exact h1, h2, ?_⟩
      · have := World.block_lt_of_cell? W _ h0
        rwa [block_of_add] at this
      · intro i u hu
        simp only [iz, List.getElem?_map, List.getElem?_take] at hu
        split at hu
        · rename_i hi
          have hiz : i < (Z j).length := by omega
          rw [List.getElem?_eq_getElem hiz] at hu
          injection hu with hu
          cases hA : A j with
          | none => have := h5 hA; omega
          | some a' =>
            have hcell := (h6 a' hA).2 i (by omega)
            have he : (Z j).getD i 0 = (Z j)[i] := by simp [List.getElem?_eq_getElem hiz]
            rw [he] at hcell
            refine ⟨a', rfl, ?_, ?_⟩
            · have := World.block_lt_of_cell? W _ hcell
              rwa [block_of_add] at this
            · rw [hcell, ← hu]
        · cases hu
    · intro b hb
      obtain ⟨r, hr, rfl⟩ := List.mem_map.1 hb
      have hr := List.mem_range.1 hr
      obtain ⟨_, h1, _, h3, _⟩ := hrow r (by omega)
      have := hrowlen r hr
      simp
      omega
    · intro b hb z hz2
      obtain ⟨r, hr, rfl⟩ := List.mem_map.1 hb
      have hr := List.mem_range.1 hr
      obtain ⟨_, h1, _, h3, h4, _⟩ := hrow r (by omega)
      have hw := h4 z (List.mem_of_mem_take hz2)
      simpa [Lit.wf, IntKind.min, IntKind.max, IntKind.signed, IntKind.bits] using hw
/-- lists of numbers that are lent: each with a mark behind it, in its own memory. -/
theorem own_lenI (A : Option Addr) (n m c d : Nat) : (Value.slice A n c).ownBlock = (Value.slice A m d).ownBlock := by cases A <;> rfl
structure LentsI (w : World) (base : Nat) (vals : List Value) (bss : List (List Int)) : Prop where
  len : vals.length = bss.length
  own : ∀ (j : Nat) (v : Value) (bs : List Int), vals[j]? = some v → bss[j]? = some bs → ∃ A c, v = .slice A bs.length c ∧ Own w base 2 1 (.slice A (bs.length + 1) c) (bs.length + 1) (iz .i64 (bs ++ [-7171]))
section
variable {S : Nat → Prop} {w w' : World} {base : Nat} {vals : List Value} {bss : List (List Int)}
theorem LentsI.nil (w : World) (base : Nat) : LentsI w base [] [] := ⟨rfl, fun j v bs h => by simp at h⟩
theorem LentsI.fr (h : LentsI w base vals bss) (f : Fr S w w') (hS : ∀ (j : Nat) v, vals[j]? = some v → ∀ k, v.ownBlock = some k → ¬ S k) : LentsI w' base vals bss :=
  ⟨h.len, fun j v bs hv hb => by
    obtain ⟨A, c, rfl, ho⟩ := h.own j v bs hv hb
    exact ⟨A, c, rfl, ho.fr f (fun g hg => hS j _ hv g (by rw [own_lenI A bs.length (bs.length + 1) c c]; exact hg))⟩⟩
theorem LentsI.fr0 (h : LentsI w base vals bss) (f : Fr No w w') : LentsI w' base vals bss := h.fr f (fun _ _ _ _ _ h => h)
theorem LentsI.lt (h : LentsI w base vals bss) {j : Nat} {v : Value} (hv : vals[j]? = some v) : ∀ k, v.ownBlock = some k → base ≤ k ∧ k < w.heap.size := by
  intro k hk
  have hj := (List.getElem?_eq_some_iff.1 hv).1
  rw [h.len] at hj
  obtain ⟨A, c, rfl, ho⟩ := h.own j v _ hv (List.getElem?_eq_getElem hj)
  exact ho.lt k (by rw [own_lenI A _ (bss[j].length) c c]; exact hk)
theorem LentsI.other {b2 e2 s2 n2 : Nat} {v2 : Value} {xs2 : List Value} (h : LentsI w base vals bss) (o : Own w b2 e2 s2 v2 n2 xs2) (hne : 2 ≠ e2) (f : Fr (fun k => v2.ownBlock = some k) w w') : LentsI w' base vals bss :=
  ⟨h.len, fun j v bs hv hb => by
    obtain ⟨A, c, rfl, ho⟩ := h.own j v bs hv hb
    exact ⟨A, c, rfl, ho.fr f (fun g hg => ho.apart o hne g hg)⟩⟩
theorem LentsI.snoc {A : Option Addr} {c : Nat} {bs : List Int} (h : LentsI w base vals bss) (o : Own w base 2 1 (.slice A (bs.length + 1) c) (bs.length + 1) (iz .i64 (bs ++ [-7171]))) : LentsI w base (vals ++ [.slice A bs.length c]) (bss ++ [bs]) := by
  have hl := h.len
  refine ⟨by simp [hl], ?_⟩
  intro j v' bs' hv hb'
  by_cases hj : j < vals.length
  · rw [List.getElem?_append_left hj] at hv
    rw [List.getElem?_append_left (by omega)] at hb'
    exact h.own j v' bs' hv hb'
  · have hj1 := (List.getElem?_eq_some_iff.1 hv).1
    have e1 : j = vals.length := by simp at hj1; omega
    subst e1
    rw [List.getElem?_append_right (Nat.le_refl _), Nat.sub_self] at hv
    rw [hl, List.getElem?_append_right (Nat.le_refl _), Nat.sub_self] at hb'
    simp at hv hb'
    subst hv; subst hb'
    exact ⟨A, c, rfl, o⟩
theorem LentsI.isl (h : LentsI w base vals bss) {A : Option Addr} (hr : Rd w w.heap.size A vals) : ISl w w.heap.size A bss := fun j bs hj => by
  have hj1 := (List.getElem?_eq_some_iff.1 hj).1
  have hv : vals[j]? = some (vals[j]'(by rw [h.len]; exact hj1)) := List.getElem?_eq_getElem _
  obtain ⟨ad, e, hb, hc⟩ := hr j _ hv
  obtain ⟨A', c', hv', ho⟩ := h.own j _ bs hv hj
  rw [hv'] at hc
  have hle := ho.le
  refine ⟨ad, A', c', e, hb, hc, by omega, hle.2.2, ?_⟩
  have h3 := ho.rd.tk bs.length
  rw [← iz_take, List.take_left] at h3
  exact h3
end
end Go.Proofs.YtnjcncidlhllmaaGreat
namespace Go.Proofs.YtnjcncidlhllmaaGreat
set_option linter.unusedVariables false
set_option linter.unusedSimpArgs false
open Go.RowKit

set_option maxRecDepth 100000 in
set_option maxHeartbeats 400000 in
theorem cloneI64_any (A : Option Addr) (n c B : Nat) (xs : List Int) (w : World) (hl : xs.length = n) (hn : n ≤ c) (hc : c ≤ maxLen) (hb : n ≤ 17592186044416) (hr : Rd w B A (iz .i64 xs)) :
    Calls Tryz.prog 57 #[.slice A n c] w (GivesL w xs) := by
  have HR := hide hr; clear hr
  have HL := hide hl; clear hl
  obtain ⟨i0, hi, hz, hsz, hby⟩ := info_parts Tryz.infoKI64
  cases A with
  | none =>
    have he := fun W => Lib.run_eql_slice_nil (P := Tryz.prog) W 41 2 none n c 0 0 Tryz.underlying41
    go_enter Tryz.func57, Tryz.ntmps57
    go_wp2
    go_ret
    have h0 := HR.out.iz_nil
    subst h0
    exact ⟨_, rfl, Own.nil _ _ _ _, Fr.refl _ _⟩
  | some ad =>
    have he := fun W => Lib.run_eql_slice_nil (P := Tryz.prog) W 41 2 (some ad) n c 0 0 Tryz.underlying41
    have HS := hide (Src.ofRd (P := Tryz.prog) (size := 1) (w.alloc (.cells #[] 2)) Tryz.underlying41 (some ad) n c (iz .i64 xs) (by rw [iz_len, HL.out]; omega) (by omega) (HR.out.fr0 ((Fr.refl _ _).alloc _)) (iz_one _ _))
    go_enter Tryz.func57, Tryz.ntmps57
    have b1 : (0 + n) * 8 ≤ 140737488355328 := by omega
    have b2 : 0 + n ≤ maxLen := by unfold maxLen at *; omega
    have b3 : w.heap.size ≤ (w.alloc (.cells #[] 2)).heap.size := by simp
    go_wp2_with (at_builtin; (refine wpList_append_gen _ rfl (.tmp 5) (.tmp 6) 41 41 rfl w.heap.size 2 i0 (.int .i64 0) 1 8 Tryz.underlying41 hi hz hsz hby rfl _ 0 [] rfl (own_empty w 2) _ n (iz .i64 xs) rfl HS.out b1 b2 b3 ?_); intro v' w' hown hfr hat)
    go_ret
    refine ⟨v', rfl, by simpa [HL.out] using hown, ?_⟩
    exact ((Fr.refl No w).alloc _).own hfr (fun g h => .inl (Nat.le_of_eq (Option.some.inj h)))
/-- rows that are answered: rows in order, or none. -/
def GivesS (w : World) (rows : Rw) (en : Ending) (w' : World) : Prop := ((okV rows ∧ ∃ A c vals, en = .returned (.tuple #[.slice A rows.length c, .bool true]) ∧ Own w' w.heap.size 41 1 (.slice A rows.length c) rows.length vals ∧ ValsI w' w.heap.size vals (sortV rows)) ∨ (¬ okV rows ∧ en = .returned (.tuple #[.slice none 0 0, .bool false]))) ∧ Fr No w w'
theorem Tryz.infoRI : (Tryz.prog.info? 41).map (fun i => (i.zero, i.size, i.bytes)) = some (some (.slice none 0 0), 1, 24) := by kernel_rfl
theorem make_rows (k : Nat) (hk : k ≤ 16384) (W : World) : (Instr.makeSlice 22 (.int .i64 0) (.int .i64 (k : Nat))).run Tryz.prog W = .ok (.slice (some ⟨W.heap.size, 0, none⟩) 0 k) (W.alloc (.cells (madeCells #[.slice none 0 0] k) 41)) := by
  obtain ⟨i0, hi, hz, hsz, hby⟩ := info_parts Tryz.infoRI
  have h := run_make (P := Tryz.prog) W 22 41 i0 (.slice none 0 0) Tryz.underlying22 hi hz .i64 .i64 0 (k : Int) (by omega) (by omega) (by rw [hby]; omega) (by omega)
  rw [Int.toNat_natCast, hsz, Nat.mul_one] at h
  exact h
theorem made_own0 (w : World) (k : Nat) (e : TypeId) (v : Value) (hk : k ≤ maxLen) : Own (w.alloc (.cells (madeCells #[v] k) e)) w.heap.size e 1 (.slice (some ⟨w.heap.size, 0, none⟩) 0 k) 0 [] :=
  ⟨by simp, _, _, rfl, Nat.zero_le _, hk, .inr ⟨w.heap.size, _, rfl, Nat.le_refl _, heap_alloc_new w _, by rw [size_madeCells]; simp, by simp⟩⟩
theorem src_row (w : World) (A : Option Addr) (n c : Nat) : Src Tryz.prog 1 22 (.slice (some ⟨w.heap.size, 0, none⟩) 1 1) 1 [.slice A n c] (w.alloc (.cells #[.slice A n c] 41)) :=
  Src.one (P := Tryz.prog) w (e := 41) Tryz.underlying22 _ rfl
theorem sortV_take {rows : Rw} {k : Nat} (h : k < rows.length) : sortV (rows.take (k + 1)) = sortV (rows.take k) ++ [sortI (rows.getD k [])] := by
  rw [take_map_getD h]; simp [sortV]
set_option maxRecDepth 100000 in
set_option maxHeartbeats 2000000 in
theorem sorted_big (A : Option Addr) (n c B : Nat) (rows : Rw) (w : World) (hl : rows.length = n) (hbig : 16384 < n) (hn : n ≤ c) (hc : c ≤ maxLen) (hr : ISl w B A rows) :
    Calls Tryz.prog 35 #[.slice A n c] w (GivesS w rows) := by
  have HL := hide hl
  unfold maxLen at hc
  obtain ⟨ad, Ai, ci, rfl, hadb, hcell, hc1, hc2, hrd⟩ := hr.at (i := 0) (by omega)
  generalize (rows.getD 0 []).length = li at hcell hc1
  unfold maxLen at hc2
  clear hrd hr hl
  have hmin : min (n : Int) 16384 = ((16384 : Nat) : Int) := by omega
  have hmk : ∀ W : World, (Instr.makeSlice 22 (.int .i64 0) (.int .i64 16384)).run Tryz.prog W = .ok (.slice (some ⟨W.heap.size, 0, none⟩) 0 16384) (W.alloc (.cells (madeCells #[.slice none 0 0] 16384) 41)) := fun W => make_rows 16384 (by omega) W
  go_enter Tryz.func35, Tryz.ntmps35
  go_wp2
  obtain ⟨w1, hw1⟩ : ∃ w1, w1 = w.alloc (.cells (madeCells #[.slice none 0 0] 16384) 41) := ⟨_, rfl⟩
  rw [← hw1]
  have hf : Fr No w w1 := by rw [hw1]; exact (Fr.refl No w).alloc _
  have hcell := hf.cell hcell (fun h => h)
  have HF := hide hf
  have hcell' : w1.cell? ad = some (.slice Ai li ci) := by
    have h : ad.add 0 = ad := Addr.add_zero' ad
    rw [h] at hcell
    exact hcell
  clear hw1 hmk hf hcell
  go_loopw [4, 6, 13] (fun _ _ i wr => i = .int .i64 0 ∧ wr = w1) (fun _ _ _ _ => 0)
  case atStart => exact ⟨by go_num, rfl⟩
  case round =>
    obtain ⟨rfl, rfl⟩ := hrel
    have e1 : (0 : Int) < n := by omega
    have e2 : decide ((16384 : Int) < n) = true := decide_eq_true (by omega)
    have e3 : decide (0 < n) = true := decide_eq_true (by omega)
    have e5 : 0 < n := by omega
    have e4 : decide (16384 < n) = true := decide_eq_true hbig
    have HBig := hide hbig
    clear hbig
    go_wp2
    go_ret2
    exact ⟨.inr ⟨fun h => by have := h.1; have := HL.out; have := HBig.out; omega, rfl⟩, HF.out⟩
set_option maxRecDepth 100000 in
set_option maxHeartbeats 4000000 in
theorem sorted_any (A : Option Addr) (n c B : Nat) (rows : Rw) (w : World) (hl : rows.length = n) (hn : n ≤ c) (hc : c ≤ maxLen) (hB : B ≤ w.heap.size) (hr : ISl w B A rows) :
    Calls Tryz.prog 35 #[.slice A n c] w (GivesS w rows) := by
  by_cases hbig : 16384 < n
  · exact sorted_big A n c B rows w hl hbig hn hc hr
  obtain ⟨i1, hi1, hz1, hsz1, hby1⟩ := info_parts Tryz.infoRI
  have hnb : n ≤ 16384 := by omega
  clear hbig
  have HR := hide hr
  have HL := hide hl
  unfold maxLen at hc
  have hmin : min (n : Int) 16384 = (n : Int) := by omega
  have hmk := make_rows n (by omega)
  clear hr hl
  go_enter Tryz.func35, Tryz.ntmps35
  go_wp2
  obtain ⟨w1, hw1⟩ : ∃ w1, w1 = w.alloc (.cells (madeCells #[.slice none 0 0] n) 41) := ⟨_, rfl⟩
  rw [← hw1]
  have hf : Fr No w w1 := by rw [hw1]; exact (Fr.refl No w).alloc _
  have hO : Own w1 w.heap.size 41 1 (.slice (some ⟨w.heap.size, 0, none⟩) 0 n) 0 [] := by rw [hw1]; exact made_own0 w n _ _ (by unfold maxLen; omega)
  have HF := hide hf
  have HO := hide hO
  clear hw1 hmk hf hO hmin
  go_loopw [4, 6, 13] (fun v4 _ i wr => ∃ (k : Nat) (vals : List Value), k ≤ n ∧ i = .int .i64 (k : Nat) ∧ Hid (Fr No w wr) ∧ Hid (Own wr w.heap.size 41 1 v4 k vals) ∧ Hid (ValsI wr w.heap.size vals (sortV (rows.take k))) ∧ Hid (∀ l ∈ rows.take k, l.length ≤ 64)) (fun _ _ i _ => n - (intOf i).toNat)
  case atStart => exact ⟨0, [], by omega, by go_num, HF, HO, hide (by rw [List.take_zero]; exact ValsI.nil _ _), hide (fun l hl => by rw [List.take_zero] at hl; cases hl)⟩
  case round =>
    clear HF HO
    obtain ⟨k, vals, hk, rfl, HF, HO, HV, HS⟩ := hrel
    by_cases hlt : k < n
    · have hk1 : k < rows.length := by rw [HL.out]; exact hlt
      obtain ⟨ad, Ai, ci, rfl, hadb, hcell, hc1, hc2, hrd⟩ := HR.out.at hk1
      have hcell := HF.out.cell hcell (fun h => h)
      obtain ⟨li, hli⟩ : ∃ x, x = (rows.getD k []).length := ⟨_, rfl⟩
      rw [← hli] at hcell hc1
      have e0 : decide ((16384 : Int) < n) = false := decide_eq_false (by omega)
      have HLI := hide hli
      by_cases hbig : 64 < li
      · have hbad : ¬ okV rows := fun h => by
          have := h.2 (rows.getD k []) (by rw [List.getD, List.getElem?_eq_getElem hk1]; exact List.getElem_mem hk1)
          omega
        have HB := hide hbad
        have hc2' := hc2
        unfold maxLen at hc2'
        clear hrd hk1 hadb hli hbad
        go_wp2
        go_ret2
        exact ⟨.inr ⟨HB.out, rfl⟩, HF.out⟩
      · have HCl := hide (cloneI64_any Ai li ci B (rows.getD k []) wr hli.symm hc1 hc2 (by omega) (hrd.fr0 HF.out))
        have hle : li ≤ 64 := by omega
        have hc2' := hc2
        unfold maxLen at hc2'
        have HS' : Hid (∀ l ∈ rows.take (k + 1), l.length ≤ 64) := hide (fun l hl => by
          rw [take_map_getD hk1] at hl
          rcases List.mem_append.1 hl with hl | hl
          · exact HS.out l hl
          · rw [List.mem_singleton.1 hl]; omega)
        have HT := hide (sortV_take hk1)
        have hws := HF.out.size
        have b1 : (k + 1) * 24 ≤ 140737488355328 := by omega
        have b2 : k + 1 ≤ maxLen := by unfold maxLen; omega
        clear hrd hk1 hadb hli hbig HS
        go_wp2_with (first
          | (go_at_call 57; refine HCl.out.mono ?_; rintro e1 w2 ⟨v2, rfl, hown, hfr⟩; rw [← HLI.out] at hown; obtain ⟨A2, c2, rfl, q1, q2, _⟩ := hown.form; have HSo := hide (sort_any wr.heap.size li c2 A2 (rows.getD k []) w2 hown (by omega)); have HW2 := hide hfr; have HO2 := hide hown; unfold maxLen at q2; clear hown hfr)
          | (go_at_call 66; refine HSo.out.mono ?_; rintro e1 w3 ⟨rfl, hown, hfr⟩; have HO3 := hide hown; have HF3 : Hid (Fr No wr w3) := hide (HW2.out.trans hfr (fun i hi e => by have := (HO2.out.lt i e).1; omega)); have HF03 : Hid (Fr No w w3) := hide (HF.out.trans HF3.out (fun _ _ h => h.elim)); have HV3 := hide (HV.out.fr0 HF3.out); have HOut := hide ((HO.out.fr0 HF3.out).fr0 ((Fr.refl No w3).alloc (.cells #[.slice A2 li c2] 41))); have hz3 : w.heap.size ≤ (w3.alloc (.cells #[.slice A2 li c2] 41)).heap.size := (by have := HF03.out.size; simp; omega); clear hown hfr)
          | (at_builtin; refine wpList_append_gen _ rfl (.tmp 29) (.tmp 31) 22 22 rfl w.heap.size 41 i1 (.slice none 0 0) 1 24 Tryz.underlying22 hi1 hz1 hsz1 hby1 rfl u4 k _ rfl HOut.out _ 1 [.slice A2 li c2] rfl (src_row w3 A2 li c2) b1 b2 hz3 ?_; intro v5 w5 hown hfr hat; have HO5 := hide hown; have HFa := hide hfr; clear hown hfr hat))
        go_roundw
        case rel =>
          have hV3 := HV3.out.fr0 ((Fr.refl No w3).alloc (.cells #[.slice A2 li c2] 41))
          have hO3 := HO3.out.fr0 ((Fr.refl No w3).alloc (.cells #[.slice A2 li c2] 41))
          refine ⟨k + 1, vals ++ [.slice A2 li c2], by omega, by go_num, hide ((HF03.out.alloc _).own HFa.out (fun g hg => .inl (HOut.out.lt g hg).1)), HO5, hide ?_, HS'⟩
          rw [HT.out]
          refine ValsI.snoc (w0 := wr) HV.out ?_ ?_ hws
          · exact hV3.fr HFa.out (fun j v hv i hi e => by
              obtain ⟨bs, _, ho⟩ := hV3.get hv
              exact ho.apart HOut.out (by decide) i hi e)
          · rw [sortI_len, ← HLI.out]
            exact hO3.fr HFa.out (fun i hi e => hO3.apart HOut.out (by decide) i hi e)
        case measure => simp [intOf]; omega
    · obtain rfl : k = n := by omega
      have htk : rows.take k = rows := List.take_of_length_le (by rw [HL.out]; omega)
      rw [htk] at HV HS
      obtain ⟨A4, c4, rfl, q1, q2, _⟩ := HO.out.form
      unfold maxLen at q2
      clear htk
      go_wp2
      go_ret2
      refine ⟨.inl ⟨⟨by rw [HL.out]; exact hnb, HS.out⟩, A4, c4, vals, by rw [HL.out]; rfl, by rw [HL.out]; exact HO.out, HV.out⟩, HF.out⟩
end Go.Proofs.YtnjcncidlhllmaaGreat
namespace Go.Proofs.YtnjcncidlhllmaaGreat
set_option linter.unusedVariables false
set_option linter.unusedSimpArgs false
open Go.RowKit

instance okV_dec (rows : Rw) : Decidable (okV rows) := inferInstanceAs (Decidable (_ ∧ _))
/-- the bytes that rows are kept in. -/
def keptV (rows : Rw) : List UInt8 := if okV rows then formV (sortV rows) else []
theorem sortV_len (rows : Rw) : (sortV rows).length = rows.length := by simp [sortV]
theorem GivesS.ok {w : World} {rows : Rw} {en : Ending} {w' : World} (h : GivesS w rows en w') (hok : okV rows) : ∃ A c, en = .returned (.tuple #[.slice A rows.length c, .bool true]) ∧ rows.length ≤ c ∧ c ≤ maxLen ∧ ISl w' w'.heap.size A (sortV rows) ∧ Fr No w w' := by
  obtain ⟨⟨_, A, c, vals, rfl, ho, hv⟩ | ⟨h, _⟩, hf⟩ := h
  · obtain ⟨A1, c1, e, q1, q2, _, q3, _⟩ := ho.form
    injection e with e1 _ e2
    subst e1; subst e2
    exact ⟨A, c, rfl, q1, q2, hv.isl q3, hf⟩
  · exact absurd hok h
theorem GivesS.bad {w : World} {rows : Rw} {en : Ending} {w' : World} (h : GivesS w rows en w') (hok : ¬ okV rows) : en = .returned (.tuple #[.slice none 0 0, .bool false]) ∧ Fr No w w' := by
  obtain ⟨⟨h, _⟩ | ⟨_, e⟩, hf⟩ := h
  · exact absurd h hok
  · exact ⟨e, hf⟩
set_option maxRecDepth 100000 in
set_option maxHeartbeats 1000000 in
theorem numbers_any (A : Option Addr) (n c B : Nat) (rows : Rw) (w : World) (hl : rows.length = n) (hi : ∀ l ∈ rows, InI l) (hn : n ≤ c) (hc : c ≤ maxLen) (hB : B ≤ w.heap.size) (hr : ISl w B A rows) :
    Calls Tryz.prog 8 #[.slice A n c] w (GivesB w (keptV rows)) := by
  have HC := hide (sorted_any A n c B rows w hl hn hc hB hr)
  have HL := hide hl
  have HI := hide hi
  clear hr hl hi
  unfold maxLen at hc
  by_cases hok : okV rows
  · go_enter Tryz.func8, Tryz.ntmps8
    go_wp2_with (first
      | (go_at_call 35; refine HC.out.mono ?_; intro e1 w1 hg; obtain ⟨A1, c1, rfl, q1, q2, q3, hf⟩ := hg.ok hok; have HW := hide (formv_any A1 rows.length c1 w1.heap.size (sortV rows) w1 (sortV_len rows) (sortV_ok hok) (sortV_in HI.out) q1 q2 (Nat.le_refl _) q3); have HF := hide hf; unfold maxLen at q2; clear hg hf q3)
      | (go_at_call 36; refine HW.out.mono ?_; rintro e2 w2 ⟨v2, rfl, hown, hfr⟩; have HO := hide hown; have HF2 := hide hfr; clear hown hfr))
    go_ret
    refine ⟨v2, rfl, ?_, HF.out.trans HF2.out (fun _ _ h => h.elim)⟩
    rw [keptV, if_pos hok]
    exact HO.out.lower HF.out.size
  · go_enter Tryz.func8, Tryz.ntmps8
    go_wp2_with (go_at_call 35; refine HC.out.mono ?_; intro e1 w1 hg; obtain ⟨rfl, hf⟩ := hg.bad hok; have HF := hide hf; clear hf hg)
    go_ret
    refine ⟨_, rfl, ?_, HF.out⟩
    rw [keptV, if_neg hok]
    exact Own.nil _ _ _ _
set_option maxRecDepth 100000 in
set_option maxHeartbeats 4000000 in
theorem refNumbers_any (A : Option Addr) (n c B : Nat) (rows : Rw) (w : World) (hl : rows.length = n) (hi : ∀ l ∈ rows, InI l) (hn : n ≤ c) (hc : c ≤ maxLen) (hB : B ≤ w.heap.size) (hr : ISl w B A rows) :
    Calls Tryz.prog 62 #[.slice A n c] w (GivesB w (keptV rows)) := by
  have HR := hide hr
  have HL := hide hl
  have HI := hide hi
  clear hr hl hi
  unfold maxLen at hc
  by_cases hbig : 16384 < n
  · have hno : ¬ okV rows := fun h => by have := h.1; have := HL.out; omega
    have HNO := hide hno
    clear hno
    go_enter Tryz.func62, Tryz.ntmps62
    go_wp2
    go_ret
    refine ⟨_, rfl, ?_, Fr.refl _ _⟩
    rw [keptV, if_neg HNO.out]
    exact Own.nil _ _ _ _
  obtain ⟨i1, hi1, hz1, hsz1, hby1⟩ := info_parts Tryz.infoRI
  have hnb : n ≤ 16384 := by omega
  clear hbig
  go_enter Tryz.func62, Tryz.ntmps62
  go_wp2
  go_loopw [3, 4, 5] (fun v3 i _ wr => ∃ (k : Nat) (vals : List Value), k ≤ n ∧ i = .int .i64 (k : Nat) ∧ Hid (Fr No w wr) ∧ Hid (Own wr w.heap.size 41 1 v3 k vals) ∧ Hid (ValsI wr w.heap.size vals (sortV (rows.take k))) ∧ Hid (∀ l ∈ rows.take k, l.length ≤ 64)) (fun _ i _ _ => n - (intOf i).toNat)
  case atStart => exact ⟨0, [], by omega, by go_num, hide (Fr.refl _ _), hide (Own.nil _ _ _ _), hide (by rw [List.take_zero]; exact ValsI.nil _ _), hide (fun l hl => by rw [List.take_zero] at hl; cases hl)⟩
  case round =>
    obtain ⟨k, vals, hk, rfl, HF, HO, HV, HS⟩ := hrel
    by_cases hlt : k < n
    · have hk1 : k < rows.length := by rw [HL.out]; exact hlt
      obtain ⟨ad, Ai, ci, rfl, hadb, hcell, hc1, hc2, hrd⟩ := HR.out.at hk1
      have hcell := HF.out.cell hcell (fun h => h)
      obtain ⟨li, hli⟩ : ∃ x, x = (rows.getD k []).length := ⟨_, rfl⟩
      rw [← hli] at hcell hc1
      have HLI := hide hli
      by_cases hbig : 64 < li
      · have hbad : ¬ okV rows := fun h => by
          have := h.2 (rows.getD k []) (by rw [List.getD, List.getElem?_eq_getElem hk1]; exact List.getElem_mem hk1)
          omega
        have HB := hide hbad
        have hc2' := hc2
        unfold maxLen at hc2'
        clear hrd hk1 hadb hli hbad
        go_wp2
        go_ret
        refine ⟨_, rfl, ?_, HF.out⟩
        rw [keptV, if_neg HB.out]
        exact Own.nil _ _ _ _
      · have hws := HF.out.size
        have HCl := hide (refSorted_any Ai li ci B (rows.getD k []) wr hli.symm hc1 hc2 (by omega) (by omega) (hrd.fr0 HF.out))
        have hle : li ≤ 64 := by omega
        have hc2' := hc2
        unfold maxLen at hc2'
        have HS' : Hid (∀ l ∈ rows.take (k + 1), l.length ≤ 64) := hide (fun l hl => by
          rw [take_map_getD hk1] at hl
          rcases List.mem_append.1 hl with hl | hl
          · exact HS.out l hl
          · rw [List.mem_singleton.1 hl]; omega)
        have HT := hide (sortV_take hk1)
        have b1 : (k + 1) * 24 ≤ 140737488355328 := by omega
        have b2 : k + 1 ≤ maxLen := by unfold maxLen; omega
        clear hrd hk1 hadb hli hbig HS
        go_wp2_with (first
          | (go_at_call 88; refine HCl.out.mono ?_; rintro e1 w3 ⟨v2, rfl, hown, hfr⟩; rw [sortI_len, ← HLI.out] at hown; obtain ⟨A2, c2, rfl, q1, q2, _⟩ := hown.form; have HO3 := hide hown; have HF3 := hide hfr; have HF03 : Hid (Fr No w w3) := hide (HF.out.trans HF3.out (fun _ _ h => h.elim)); have HV3 := hide (HV.out.fr0 HF3.out); have HOut := hide ((HO.out.fr0 HF3.out).fr0 ((Fr.refl No w3).alloc (.cells #[.slice A2 li c2] 41))); have hz3 : w.heap.size ≤ (w3.alloc (.cells #[.slice A2 li c2] 41)).heap.size := (by have := HF03.out.size; simp; omega); unfold maxLen at q2; clear hown hfr)
          | (at_builtin; refine wpList_append_gen _ rfl (.tmp 26) (.tmp 28) 22 22 rfl w.heap.size 41 i1 (.slice none 0 0) 1 24 Tryz.underlying22 hi1 hz1 hsz1 hby1 rfl u3 k _ rfl HOut.out _ 1 [.slice A2 li c2] rfl (src_row w3 A2 li c2) b1 b2 hz3 ?_; intro v5 w5 hown hfr hat; have HO5 := hide hown; have HFa := hide hfr; clear hown hfr hat))
        go_roundw
        case rel =>
          have hV3 := HV3.out.fr0 ((Fr.refl No w3).alloc (.cells #[.slice A2 li c2] 41))
          have hO3 := HO3.out.fr0 ((Fr.refl No w3).alloc (.cells #[.slice A2 li c2] 41))
          refine ⟨k + 1, vals ++ [.slice A2 li c2], by omega, by go_num, hide ((HF03.out.alloc _).own HFa.out (fun g hg => .inl (HOut.out.lt g hg).1)), HO5, hide ?_, HS'⟩
          rw [HT.out]
          refine ValsI.snoc (w0 := wr) HV.out ?_ ?_ hws
          · exact hV3.fr HFa.out (fun j v hv i hi e => by
              obtain ⟨bs, _, ho⟩ := hV3.get hv
              exact ho.apart HOut.out (by decide) i hi e)
          · rw [sortI_len, ← HLI.out]
            exact hO3.fr HFa.out (fun i hi e => hO3.apart HOut.out (by decide) i hi e)
        case measure => simp [intOf]; omega
    · obtain rfl : k = n := by omega
      have htk : rows.take k = rows := List.take_of_length_le (by rw [HL.out]; omega)
      rw [htk] at HV HS
      have hok : okV rows := ⟨by rw [HL.out]; exact hnb, HS.out⟩
      obtain ⟨A4, c4, rfl, q1, q2, _, q3, _⟩ := HO.out.form
      have HW := hide (refForm_any A4 k c4 wr.heap.size (sortV rows) wr ((sortV_len rows).trans HL.out) (sortV_ok hok) (sortV_in HI.out) q1 q2 (Nat.le_refl _) (HV.out.isl q3))
      have HOK := hide hok
      unfold maxLen at q2
      clear htk hok q3
      go_wp2_with (go_at_call 89; refine HW.out.mono ?_; rintro e2 w2 ⟨v2, rfl, hown, hfr⟩; have HO2 := hide hown; have HF2 := hide hfr; clear hown hfr)
      go_ret
      refine ⟨v2, rfl, ?_, HF.out.trans HF2.out (fun _ _ h => h.elim)⟩
      rw [keptV, if_pos HOK.out]
      exact HO2.out.lower HF.out.size
end Go.Proofs.YtnjcncidlhllmaaGreat
namespace Go.Proofs.YtnjcncidlhllmaaGreat
set_option linter.unusedVariables false
set_option linter.unusedSimpArgs false
open Go.RowKit

/-- rows that were lent: each with its mark, a mark behind them all. -/
def LentR (w : World) (B : Nat) (A : Option Addr) (rows : Rw) : Prop :=
  (∀ (j : Nat) l, rows[j]? = some l → ∃ ad Aj cj, A = some ad ∧ ad.block < B ∧ w.cell? (ad.add j) = some (.slice Aj l.length cj) ∧ l.length + 1 ≤ cj ∧ cj ≤ maxLen ∧ Rd w B Aj (iz .i64 (l ++ [-7171]))) ∧
  ∃ ad Am cm, A = some ad ∧ ad.block < B ∧ w.cell? (ad.add rows.length) = some (.slice Am 1 cm) ∧ 1 ≤ cm ∧ cm ≤ maxLen ∧ Rd w B Am (iz .i64 [-7171])
theorem LentR.fr0 {w w' : World} {B : Nat} {A : Option Addr} {rows : Rw} (h : LentR w B A rows) (f : Fr No w w') : LentR w' B A rows := by
  refine ⟨fun j l hj => ?_, ?_⟩
  · obtain ⟨ad, Aj, cj, e, h1, h2, h3, h4, h5⟩ := h.1 j l hj
    exact ⟨ad, Aj, cj, e, h1, f.cell h2 (fun h => h), h3, h4, h5.fr0 f⟩
  · obtain ⟨ad, Aj, cj, e, h1, h2, h3, h4, h5⟩ := h.2
    exact ⟨ad, Aj, cj, e, h1, f.cell h2 (fun h => h), h3, h4, h5.fr0 f⟩
theorem LentR.isl {w : World} {B : Nat} {A : Option Addr} {rows : Rw} (h : LentR w B A rows) : ISl w B A rows := fun j l hj => by
  obtain ⟨ad, Aj, cj, e, h1, h2, h3, h4, h5⟩ := h.1 j l hj
  refine ⟨ad, Aj, cj, e, h1, h2, by omega, h4, ?_⟩
  have h6 := h5.tk l.length
  rw [← iz_take, List.take_left] at h6
  exact h6
theorem LentR.at {w : World} {B : Nat} {A : Option Addr} {rows : Rw} (h : LentR w B A rows) {i : Nat} (hi : i < rows.length) : ∃ ad Ai ci, A = some ad ∧ ad.block < B ∧ w.cell? (ad.add i) = some (.slice Ai (rows.getD i []).length ci) ∧ (rows.getD i []).length + 1 ≤ ci ∧ ci ≤ maxLen ∧ Rd w B Ai (iz .i64 (rows.getD i [] ++ [-7171])) := by
  have e : rows[i]? = some (rows.getD i []) := by rw [List.getD, List.getElem?_eq_getElem hi]; rfl
  obtain ⟨ad, Ai, ci, e, h1, h2, h3, h4, h5⟩ := h.1 i _ e
  exact ⟨ad, Ai, ci, e, h1, h2, h3, h4, h5⟩
theorem LentR.of {w : World} {base b2 n c gm : Nat} {A : Option Addr} {vals : List Value} {rows : Rw} (ho : Own w base 41 1 (.slice A (n + 1) c) (n + 1) (vals ++ [.slice (some ⟨gm, 0, none⟩) 1 1])) (hl : LentsI w base vals rows) (hn : rows.length = n)
    (hm : Own w b2 2 1 (.slice (some ⟨gm, 0, none⟩) 1 1) 1 (iz .i64 [-7171])) : LentR w w.heap.size A rows := by
  have hr := ho.rd
  have hvl := hl.len
  refine ⟨fun j l hj => ?_, ?_⟩
  · have hjl := (List.getElem?_eq_some_iff.1 hj).1
    have hv : vals[j]? = some (vals[j]'(by omega)) := List.getElem?_eq_getElem _
    obtain ⟨ad, e, hb, hc⟩ := hr j _ (by rw [List.getElem?_append_left (by omega)]; exact hv)
    obtain ⟨Aj, cj, e2, hoj⟩ := hl.own j _ l hv hj
    rw [e2] at hc
    exact ⟨ad, Aj, cj, e, hb, hc, hoj.le.2.1, hoj.le.2.2, hoj.rd⟩
  · obtain ⟨ad, e, hb, hc⟩ := hr rows.length (.slice (some ⟨gm, 0, none⟩) 1 1) (by rw [List.getElem?_append_right (by omega), hvl, Nat.sub_self]; rfl)
    exact ⟨ad, _, 1, e, hb, hc, Nat.le_refl _, by decide, hm.rd⟩
theorem own_lit (w : World) (e : TypeId) (v : Value) : Own (w.alloc (.cells #[v] e)) w.heap.size e 1 (.slice (some ⟨w.heap.size, 0, none⟩) 1 1) 1 [v] :=
  ⟨by simp, _, 1, rfl, Nat.le_refl _, by decide, .inr ⟨w.heap.size, #[v], rfl, Nat.le_refl _, heap_alloc_new w _, by simp, by simp⟩⟩
def GivesLR (n : Nat) (w : World) (rows : Rw) (en : Ending) (w' : World) : Prop := ∃ A c, en = .returned (.slice A n c) ∧ n + 1 ≤ c ∧ c ≤ maxLen ∧ LentR w' w'.heap.size A rows ∧ Fr No w w'
set_option maxRecDepth 100000 in
set_option maxHeartbeats 2000000 in
theorem lentRows_any (A : Option Addr) (n c B : Nat) (rows : Rw) (w : World) (hl : rows.length = n) (hn : n ≤ c) (hc : c ≤ maxLen) (hb : (n + 1) * 24 ≤ 140737488355328) (hlb : ∀ l ∈ rows, (l.length + 1) * 8 ≤ 140737488355328) (hB : B ≤ w.heap.size) (hr : ISl w B A rows) :
    Calls Tryz.prog 9 #[.slice A n c] w (GivesLR n w rows) := by
  have HR := hide hr
  have HL := hide hl
  have HB := hide hlb
  clear hr hl hlb
  unfold maxLen at hc
  obtain ⟨i1, hi1, hz1, hsz1, hby1⟩ := info_parts Tryz.infoRI
  go_enter Tryz.func9, Tryz.ntmps9
  go_wp2
  go_loopw [3, 4, 5] (fun v3 i _ wr => ∃ (k : Nat) (vals : List Value), k ≤ n ∧ i = .int .i64 (k : Nat) ∧ Hid (Fr No w wr) ∧ Hid (Own wr w.heap.size 41 1 v3 k vals) ∧ Hid (LentsI wr w.heap.size vals (rows.take k))) (fun _ i _ _ => n - (intOf i).toNat)
  case atStart => exact ⟨0, [], by omega, by go_num, hide (Fr.refl _ _), hide (Own.nil _ _ _ _), hide (by rw [List.take_zero]; exact LentsI.nil _ _)⟩
  case round =>
    obtain ⟨k, vals, hk, rfl, HF, HO, HV⟩ := hrel
    by_cases hlt : k < n
    · have hk1 : k < rows.length := by rw [HL.out]; exact hlt
      obtain ⟨ad, Ai, ci, rfl, hadb, hcell, hc1, hc2, hrd⟩ := HR.out.at hk1
      have hcell := HF.out.cell hcell (fun h => h)
      have hlb := HB.out (rows.getD k []) (by rw [List.getD, List.getElem?_eq_getElem hk1]; exact List.getElem_mem hk1)
      obtain ⟨li, hli⟩ : ∃ x, x = (rows.getD k []).length := ⟨_, rfl⟩
      rw [← hli] at hcell hc1 hlb
      have HLI := hide hli
      have hws := HF.out.size
      have HCl := hide (lentI64_any Ai li ci B (rows.getD k []) wr hli.symm hlb (hrd.fr0 HF.out))
      have hc2' := hc2
      unfold maxLen at hc2'
      have HT := hide (take_map_getD hk1)
      have b1 : (k + 1) * 24 ≤ 140737488355328 := by omega
      have b2 : k + 1 ≤ maxLen := by unfold maxLen; omega
      clear hrd hk1 hadb hli hlb
      go_wp2_with (first
        | (go_at_call 37; refine HCl.out.mono ?_; rintro e1 w3 ⟨A2, c2, rfl, hown, hfr⟩; rw [← HLI.out] at hown ⊢; have HO3 := hide hown; have hle2 := hown.le; have HF3 := hide hfr; have HF03 : Hid (Fr No w w3) := hide (HF.out.trans HF3.out (fun _ _ h => h.elim)); have HV3 := hide (HV.out.fr0 HF3.out); have HOut := hide ((HO.out.fr0 HF3.out).fr0 ((Fr.refl No w3).alloc (.cells #[.slice A2 li c2] 41))); have hz3 : w.heap.size ≤ (w3.alloc (.cells #[.slice A2 li c2] 41)).heap.size := (by have := HF03.out.size; simp; omega); clear hown hfr)
        | (at_builtin; refine wpList_append_gen _ rfl (.tmp 17) (.tmp 19) 22 22 rfl w.heap.size 41 i1 (.slice none 0 0) 1 24 Tryz.underlying22 hi1 hz1 hsz1 hby1 rfl u3 k _ rfl HOut.out _ 1 [.slice A2 li c2] rfl (src_row w3 A2 li c2) b1 b2 hz3 ?_; intro v5 w5 hown hfr hat; have HO5 := hide hown; have HFa := hide hfr; clear hown hfr hat))
      go_roundw
      case rel =>
        have hV3 := HV3.out.fr0 ((Fr.refl No w3).alloc (.cells #[.slice A2 li c2] 41))
        have hO3 := (HO3.out.lower hws).fr0 ((Fr.refl No w3).alloc (.cells #[.slice A2 li c2] 41))
        refine ⟨k + 1, vals ++ [.slice A2 li c2], by omega, by go_num, hide ((HF03.out.alloc _).own HFa.out (fun g hg => .inl (HOut.out.lt g hg).1)), HO5, hide ?_⟩
        rw [HT.out]
        have h9 := hO3.fr HFa.out (fun i hi e => hO3.apart HOut.out (by decide) i hi e)
        rw [HLI.out] at h9 ⊢
        exact LentsI.snoc (hV3.other HOut.out (by decide) HFa.out) h9
      case measure => simp [intOf]; omega
    · obtain rfl : k = n := by omega
      have htk : rows.take k = rows := List.take_of_length_le (by rw [HL.out]; omega)
      rw [htk] at HV
      have hz := HF.out.size
      have b1 : (k + 1) * 24 ≤ 140737488355328 := by omega
      have b2 : k + 1 ≤ maxLen := by unfold maxLen; omega
      have hm := own_lit wr 2 (.int .i64 (-7171))
      obtain ⟨wm, hwm⟩ : ∃ x, x = wr.alloc (.cells #[.int .i64 (-7171)] 2) := ⟨_, rfl⟩
      rw [← hwm] at hm
      have hfm : Fr No wr wm := by rw [hwm]; exact (Fr.refl No wr).alloc _
      have hsz : wm.heap.size = wr.heap.size + 1 := by rw [hwm]; simp
      have hS := src_row wm (some ⟨wr.heap.size, 0, none⟩) 1 1
      have hfa : Fr No wm (wm.alloc (.cells #[.slice (some ⟨wr.heap.size, 0, none⟩) 1 1] 41)) := (Fr.refl No wm).alloc _
      have HM := hide (hm.fr0 hfa)
      have HOut := hide ((HO.out.fr0 hfm).fr0 hfa)
      have HV2 := hide ((HV.out.fr0 hfm).fr0 hfa)
      have HF2 : Hid (Fr No w (wm.alloc (.cells #[.slice (some ⟨wr.heap.size, 0, none⟩) 1 1] 41))) := hide ((HF.out.trans hfm (fun _ _ h => h.elim)).trans hfa (fun _ _ h => h.elim))
      have hz3 : w.heap.size ≤ (wm.alloc (.cells #[.slice (some ⟨wr.heap.size, 0, none⟩) 1 1] 41)).heap.size := HF2.out.size
      rw [hsz] at hS
      subst hwm
      have HS := hide hS
      clear hm hfm hfa hS hsz htk
      go_wp2_with (at_builtin; refine wpList_append_gen _ rfl (.tmp 21) (.tmp 23) 22 22 rfl w.heap.size 41 i1 (.slice none 0 0) 1 24 Tryz.underlying22 hi1 hz1 hsz1 hby1 rfl u3 k _ rfl HOut.out _ 1 [.slice (some ⟨wr.heap.size, 0, none⟩) 1 1] rfl HS.out b1 b2 hz3 ?_; intro v5 w5 hown hfr hat; obtain ⟨A5, c5, rfl, q1, q2, _⟩ := hown.form; have HO5 := hide hown; have HFa := hide hfr; unfold maxLen at q2; clear hown hfr hat)
      go_ret
      have hM := HM.out.fr HFa.out (fun i hi e => HM.out.apart HOut.out (by decide) i hi e)
      exact ⟨A5, c5, rfl, q1, by unfold maxLen; omega, LentR.of HO5.out (HV2.out.other HOut.out (by decide) HFa.out) HL.out hM, HF2.out.own HFa.out (fun g hg => .inl (HOut.out.lt g hg).1)⟩
end Go.Proofs.YtnjcncidlhllmaaGreat
