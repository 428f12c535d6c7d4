/- The document's sets: New, List, At, Bytes. -/
import Derived.Test.YtapfbjaopbcgjaaDoorEachL
import Derived.Test.YtapfbjaopbcgjaaDoorInts
import Derived.Test.YtapfbjaopbcgjaaDoorMem3
namespace Go.Proofs.YtapfbjaopbcgjaaDoor
set_option linter.unusedVariables false
set_option linter.unusedSimpArgs false
open Go.RowKit

def bz (l : List Bool) : List Value := l.map Value.bool
theorem bz_len (l : List Bool) : (bz l).length = l.length := by simp [bz]
theorem bz_at (l : List Bool) {j : Nat} (h : j < l.length) : (bz l)[j]? = some (.bool (hasN l j)) := by
  unfold hasN
  simp [bz, h]
theorem Rd.boolAt {w : World} {B : Nat} {A : Option Addr} {l : List Bool} (h : Rd w B A (bz l)) {j : Nat} (hj : j < l.length) : ∃ ad, A = some ad ∧ ad.block < B ∧ w.cell? (ad.add j) = some (.bool (hasN l j)) := h j _ (bz_at l hj)
/-- new bools. -/
def GivesBz (w : World) (l : List Bool) (en : Ending) (w' : World) : Prop := ∃ v, en = .returned v ∧ Own w' w.heap.size 4 1 v l.length (bz l) ∧ Fr No w w'
theorem Tryd.infoBool : (Tryd.prog.info? 4).map (fun i => (i.zero, i.size, i.bytes)) = some (some (.bool false), 1, 1) := by kernel_rfl
theorem make_bools (k : Nat) (hk : k ≤ 1048576) (W : World) : (Instr.makeSlice 29 (.int .i64 (k : Nat)) (.int .i64 (k : Nat))).run Tryd.prog W = .ok (.slice (some ⟨W.heap.size, 0, none⟩) k k) (W.alloc (.cells (madeCells #[.bool false] k) 4)) := by
  obtain ⟨i0, hi, hz, hsz, hby⟩ := info_parts Tryd.infoBool
  have h := run_make (P := Tryd.prog) W 29 4 i0 (.bool false) Tryd.underlying29 hi hz .i64 .i64 (k : Int) (k : Int) (by omega) (by omega) (by rw [hby]; omega) (by omega)
  rw [Int.toNat_natCast, hsz, Nat.mul_one] at h
  exact h
/-- k of n laid. -/
def part (b : Bool) (n k : Nat) : List Bool := List.replicate k b ++ List.replicate (n - k) false
theorem part_len {b : Bool} {n k : Nat} (h : k ≤ n) : (part b n k).length = n := by simp [part]; omega
theorem part_set {b : Bool} {n k : Nat} (h : k < n) : (bz (part b n k)).set k (.bool b) = bz (part b n (k + 1)) := by
  unfold part bz
  rw [List.map_append, List.map_append, List.set_append, if_neg (by simp)]
  rw [show n - k = (n - (k + 1)) + 1 by omega, List.replicate_succ, List.map_cons]
  simp [List.replicate_succ']
theorem part_all (b : Bool) (n : Nat) : part b n n = List.replicate n b := by simp [part]
theorem part_none (b : Bool) (n : Nat) : part b n 0 = List.replicate n false := by simp [part]

set_option maxRecDepth 100000 in
set_option maxHeartbeats 800000 in
theorem refNew_mid (n : Nat) (b : Bool) (w : World) (hn : n ≤ 16384) : Calls Tryd.prog 19 #[.int .i64 (n : Nat), .bool b] w (GivesBz w (List.replicate n b)) := by
  have hm := make_bools n (by omega)
  have HO : Hid (Own (w.alloc (.cells (madeCells #[.bool false] n) 4)) w.heap.size 4 1 (.slice (some ⟨w.heap.size, 0, none⟩) n n) n (bz (part b n 0))) := hide (by
    have h := made_own w n 4 (.bool false) _ rfl (by unfold maxLen; omega)
    rw [part_none, bz, List.map_replicate]
    exact h)
  generalize madeCells #[.bool false] n = z at hm HO
  go_enter Tryd.func19, Tryd.ntmps19
  go_wp2
  go_loopw [6] (fun i wr => ∃ k : Nat, k ≤ n ∧ i = .int .i64 k ∧ Hid (Own wr w.heap.size 4 1 (.slice (some ⟨w.heap.size, 0, none⟩) n n) n (bz (part b n k))) ∧ Hid (Fr No w wr)) (fun i _ => n - (intOf i).toNat)
  case atStart => exact ⟨0, by omega, rfl, HO, hide ((Fr.refl _ _).alloc _)⟩
  case round =>
    clear HO
    obtain ⟨k, hk, rfl, OW, FW⟩ := hrel
    by_cases hlt : k < n
    · obtain ⟨g', e, _, _, hcell, hfz, hst⟩ := OW.out.store hlt
      have e1 : w.heap.size = g' := by injection e with e; injection e
      subst e1
      rw [bz_at _ (by rw [part_len (by omega)]; exact hlt)] at hcell
      have HS := hide (hst (.bool b))
      rw [part_set hlt] at HS
      generalize hasN (part b n k) k = old at hcell
      clear hst e
      go_wp2
      go_roundw
      case rel => exact ⟨k + 1, by omega, by go_num, HS, hide (FW.out.setCell (p := ⟨w.heap.size, k, none⟩) (fun h => absurd h (Nat.lt_irrefl _)) _)⟩
      case measure => simp [intOf]; omega
    · obtain rfl : k = n := by omega
      go_wp2
      go_ret
      refine ⟨_, rfl, ?_, FW.out⟩
      rw [List.length_replicate, ← part_all]
      exact OW.out

set_option maxRecDepth 100000 in
set_option maxHeartbeats 800000 in
theorem refList_any (A : Option Addr) (n c B : Nat) (l : List Bool) (w : World) (hl : l.length = n) (hn : n ≤ c) (hc : c ≤ maxLen) (hn2 : n ≤ 16384) (hB : B ≤ w.heap.size) (hr : Rd w B A (bz l)) :
    Calls Tryd.prog 28 #[.slice A n c] w (GivesN w (held l)) := by
  obtain ⟨i0, hi, hz, hsz, hby⟩ := info_parts Tryd.infoInt
  have HL := hide hl
  have HR := hide hr
  have HB := hide hB
  unfold maxLen at hc
  clear hl hr hB
  go_enter Tryd.func28, Tryd.ntmps28
  go_wp2
  go_loopw [3, 4] (fun v i wr => ∃ (k m : Nat) (xs : List Nat), k ≤ n ∧ m ≤ k ∧ i = .int .i64 k ∧ Hid (xs = uptoN l k) ∧ Hid (m = xs.length) ∧ Hid (Own wr w.heap.size 3 1 v m (ints xs)) ∧ Hid (Fr No w wr)) (fun _ i _ => n - (intOf i).toNat)
  case atStart => exact ⟨0, 0, [], by omega, by omega, rfl, hide rfl, hide rfl, hide (Own.nil _ _ _ _), hide (Fr.refl _ _)⟩
  case round =>
    obtain ⟨k, m, xs, hk, hmk, rfl, HX, HM, OW, FW⟩ := hrel
    obtain ⟨Av, cv, rfl, hv1, hv2, _⟩ := OW.out.form
    unfold maxLen at hv2
    by_cases hlt : k < n
    · obtain ⟨ad, rfl, had, hcell⟩ := (HR.out.fr0 FW.out).boolAt (j := k) (by rw [HL.out]; exact hlt)
      have hsz1 := FW.out.size
      cases hb : hasN l k with
      | true =>
        have HU := hide (upto_hit hb)
        rw [hb] at hcell
        have b1 : (m + 1) * 8 ≤ 140737488355328 := by omega
        have b2 : m + 1 ≤ maxLen := by unfold maxLen; omega
        clear hb
        go_wp2_with (at_builtin; refine wpList_append_gen _ rfl (.tmp 15) (.tmp 17) 47 47 rfl w.heap.size 3 i0 (.int .i64 0) 1 8 Tryd.underlying47 hi hz hsz hby rfl (.slice Av m cv) m (ints xs) rfl (OW.out.fr0 ((Fr.refl No wr).alloc (.cells #[.int .i64 (k : Nat)] 3))) _ 1 [.int .i64 (k : Nat)] rfl (Src.one (P := Tryd.prog) wr (e := 3) Tryd.underlying47 (.int .i64 (k : Nat)) rfl) b1 b2 (by simp; omega) ?_; intro v2 w2 hown hfr hat; have O2 := hide hown; have F2 : Hid (Fr No w w2) := hide ((FW.out.alloc _).own hfr (fun g hg => .inl (OW.out.lt g hg).1)); clear hown hfr hat)
        go_roundw
        case rel => exact ⟨k + 1, m + 1, xs ++ [k], by omega, by omega, by go_num, hide (by rw [HU.out, ← HX.out]), hide (by rw [HM.out]; simp), hide (by rw [ints_snoc]; exact O2.out), F2⟩
        case measure => simp [intOf]; omega
      | false =>
        have HU := hide (upto_skip (l := l) (i := k) (k := k + 1) (by omega) (fun j h1 h2 => by rw [show j = k by omega]; exact hb))
        rw [hb] at hcell
        clear hb
        go_wp2
        go_roundw
        case rel => exact ⟨k + 1, m, xs, by omega, by omega, by go_num, hide (by rw [HU.out]; exact HX.out), HM, OW, FW⟩
        case measure => simp [intOf]; omega
    · obtain rfl : k = n := by omega
      go_wp2
      go_ret
      refine ⟨_, rfl, ?_, FW.out⟩
      have h := OW.out
      rw [HM.out, HX.out, ← HL.out] at h
      rw [HM.out, HX.out, ← HL.out]
      exact h
end Go.Proofs.YtapfbjaopbcgjaaDoor
