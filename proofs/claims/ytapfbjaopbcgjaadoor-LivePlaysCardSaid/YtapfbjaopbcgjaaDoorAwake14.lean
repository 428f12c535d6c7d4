/- Some of the chapter's answers on sets: of, at, awake. Condition: the library's table lies as laid. -/
import Derived.Test.YtapfbjaopbcgjaaDoorAtW
import Derived.Test.YtapfbjaopbcgjaaDoorSame14
namespace Go.Proofs.YtapfbjaopbcgjaaDoor
set_option linter.unusedVariables false
set_option linter.unusedSimpArgs false
open Go.RowKit

def ofL (n : Nat) (l : List Int) : List Bool := l.foldl (fun s i => setI s i true) (List.replicate n false)
theorem ofL_snoc (n : Nat) (l : List Int) (x : Int) : ofL n (l ++ [x]) = setI (ofL n l) x true := by simp [ofL]

set_option maxRecDepth 100000 in
set_option maxHeartbeats 1000000 in
theorem of_any (n : Nat) (A : Option Addr) (m c B : Nat) (l : List Int) (w : World) (hn : n ≤ 16384) (hl : l.length = m) (h1 : m ≤ c) (h2 : c ≤ maxLen) (hB : B ≤ w.heap.size) (hr : Rd w B A (iz .i64 l)) :
    Calls Tryd.prog 33 #[.int .i64 (n : Nat), .slice A m c] w (GivesBT w (ofL n l)) := by
  have HN := hide (new_any (n : Nat) w (by omega) (by omega))
  have hk : clampN (n : Nat) = n := by unfold clampN; rw [if_neg (by omega), if_neg (by omega), Int.toNat_natCast]
  rw [hk] at HN
  have HL := hide hl
  have HR := hide hr
  have HBB := hide hB
  unfold maxLen at h2
  clear hl hr hk hB
  go_enter Tryd.func33, Tryd.ntmps33
  go_wp2_with (go_at_call 17; refine HN.out.mono ?_; rintro en w1 ⟨g, gw, rfl, hbt, hfr⟩; have B1 := hide hbt; have F1 := hide hfr; clear hbt hfr)
  go_loopw [6] (fun i wr => ∃ k : Nat, k ≤ m ∧ i = .int .i64 k ∧ Hid (BT wr w.heap.size g gw (ofL n (l.take k))) ∧ Hid (Fr No w wr)) (fun i _ => m - (intOf i).toNat)
  case atStart => exact ⟨0, by omega, rfl, B1, F1⟩
  case round =>
    clear B1 F1
    obtain ⟨k, hk, rfl, BW, FW⟩ := hrel
    by_cases hlt : k < m
    · obtain ⟨ad, rfl, had, hcell⟩ := (HR.out.fr0 FW.out).intAt (j := k) (by rw [HL.out]; exact hlt)
      have HT := hide (take_snoc_int (l := l) (k := k) (by rw [HL.out]; exact hlt))
      generalize l.getD k 0 = x at hcell HT
      go_wp2_with (go_at_call 20; refine (set_any w.heap.size g gw (ofL n (l.take k)) x wr BW.out).mono ?_; rintro en w' ⟨⟨v', rfl⟩, hbt, hfr⟩; have B2 := hide hbt; have F2 : Hid (Fr No w w') := hide (FW.out.own1 hfr BW.out.lt.2.2.1); clear hbt hfr)
      go_roundw
      case rel => exact ⟨k + 1, by omega, by go_num, hide (by rw [HT.out, ofL_snoc]; exact B2.out), F2⟩
      case measure => simp [intOf]; omega
    · obtain rfl : k = m := by omega
      go_wp2
      go_ret
      refine ⟨g, gw, rfl, ?_, FW.out⟩
      have h := BW.out
      rw [List.take_of_length_le (Nat.le_of_eq HL.out)] at h
      exact h

theorem Rd.lit {W : World} {cs : Array Value} {e : TypeId} {k : IntKind} {l : List Int} (h : cs.toList = iz k l) : Rd (W.alloc (.cells cs e)) (W.heap.size + 1) (some ⟨W.heap.size, 0, none⟩) (iz k l) := by
  rw [← h]
  exact Rd.block (heap_alloc_new W _)
theorem at_lit (s : Int) (u : List Nat) (hu : held (atB [3, 5, 7] [0, 6] s) = u) (hul : u.length ≤ 9) (W : World) (hT : Tab W) :
    Calls Tryd.prog 35 #[.int .u64 s] W (GivesN W u) := by
  have H1 := hide (Rd.lit (W := W) (cs := #[.int .u64 3, .int .u64 5, .int .u64 7]) (e := 23) (k := .u64) (l := [3, 5, 7]) rfl)
  have H2 := hide (Rd.lit (W := W.alloc (.cells #[.int .u64 3, .int .u64 5, .int .u64 7] 23)) (cs := #[.int .u64 0, .int .u64 6]) (e := 23) (k := .u64) (l := [0, 6]) rfl)
  have HA : Hid (Calls Tryd.prog 11 #[.slice (some ⟨W.heap.size, 0, none⟩) 3 3, .slice (some ⟨W.heap.size + 1, 0, none⟩) 2 2, .int .u64 s] ((W.alloc (.cells #[.int .u64 3, .int .u64 5, .int .u64 7] 23)).alloc (.cells #[.int .u64 0, .int .u64 6] 23)) (GivesBT ((W.alloc (.cells #[.int .u64 3, .int .u64 5, .int .u64 7] 23)).alloc (.cells #[.int .u64 0, .int .u64 6] 23)) (atB [3, 5, 7] [0, 6] s))) := hide (by
    have h := at_any (some ⟨W.heap.size, 0, none⟩) (some ⟨W.heap.size + 1, 0, none⟩) 3 3 2 2 (W.heap.size + 1) (W.heap.size + 2) [3, 5, 7] [0, 6] s ((W.alloc (.cells #[.int .u64 3, .int .u64 5, .int .u64 7] 23)).alloc (.cells #[.int .u64 0, .int .u64 6] 23)) rfl rfl (Nat.le_refl _) (by unfold maxLen; omega) (Nat.le_refl _) (by unfold maxLen; omega) (by omega) (by simp) (by simp) (H1.out.fr0 ((Fr.refl No _).alloc _)) (by
      have := H2.out
      rw [show (W.alloc (.cells #[.int .u64 3, .int .u64 5, .int .u64 7] 23)).heap.size = W.heap.size + 1 by simp] at this
      exact this)
    exact h)
  have HF : Hid (Fr No W ((W.alloc (.cells #[.int .u64 3, .int .u64 5, .int .u64 7] 23)).alloc (.cells #[.int .u64 0, .int .u64 6] 23))) := hide (((Fr.refl No W).alloc _).alloc _)
  have hlen : (atB [3, 5, 7] [0, 6] s).length = 3 := by simp [atB]
  have HE := hide (fun W' B v (h : BV W' B v (atB [3, 5, 7] [0, 6] s)) (f : Fr No W W') => (show Calls Tryd.prog 38 #[v, .int .i64 9] W' (GivesN W' u) by
    have h2 := eachL_any B v _ 9 W' h (hT.fr0 f) (by rw [hlen]; omega) (by omega) (by omega)
    rw [hu, List.take_of_length_le hul] at h2
    exact h2))
  clear H1 H2 hT hu hul hlen
  go_enter Tryd.func35, Tryd.ntmps35
  go_wp2_with (first
    | (go_at_call 11; refine HA.out.mono ?_; rintro en w1 ⟨g, gw, rfl, hbt, hfr⟩; have B1 := hide hbt; have F1 := hide (HF.out.tr hfr); clear hbt hfr)
    | (go_at_call 38; refine (HE.out w1 _ _ (.inr ⟨g, gw, rfl, B1.out⟩) F1.out).mono ?_; rintro en w2 ⟨v2, rfl, hown, hfr⟩; have O2 := hide hown; have F2 := hide (F1.out.tr hfr); have z1 := hide F1.out.size; clear hown hfr))
  go_ret
  exact ⟨_, rfl, O2.out.lower z1.out, F2.out⟩

def l10 : List Bool := [false, true, false, false, false, false, false, false, false, true]
theorem l10_of : ofL 10 [1, 9, 10, -1] = l10 := by decide
theorem l10_count : countL l10 = 2 := by decide
theorem l10_bytes : enc l10.length ++ setB l10 = [10, 2, 2] := by decide +kernel
theorem at6 : held (atB [3, 5, 7] [0, 6] 6) = [0, 1] := by decide
theorem at7 : held (atB [3, 5, 7] [0, 6] 7) = [0] := by decide

set_option maxRecDepth 100000 in
set_option maxHeartbeats 1000000 in
theorem awake14_any (w : World) (hT : Tab w) : Calls Tryd.prog 9 #[] w (RetB true w) := by
  have HOf : Hid (Calls Tryd.prog 33 #[.int .i64 10, .slice (some ⟨w.heap.size, 0, none⟩) 4 4] (w.alloc (.cells #[.int .i64 1, .int .i64 9, .int .i64 10, .int .i64 (-1)] 3)) (GivesBT (w.alloc (.cells #[.int .i64 1, .int .i64 9, .int .i64 10, .int .i64 (-1)] 3)) l10)) := hide (by
    have h := of_any 10 (some ⟨w.heap.size, 0, none⟩) 4 4 (w.heap.size + 1) [1, 9, 10, -1] (w.alloc (.cells #[.int .i64 1, .int .i64 9, .int .i64 10, .int .i64 (-1)] 3)) (by omega) rfl (Nat.le_refl _) (by unfold maxLen; omega) (by simp) (Rd.lit rfl)
    rw [l10_of] at h
    exact h)
  have HC := hide (fun W B v (h : BV W B v l10) => (show Calls Tryd.prog 27 #[v] W (Ret (.int .i64 2) W) by
    have h2 := count_any B v l10 W h
    rw [l10_count] at h2
    exact h2))
  have HBy := hide (fun W B v (h : BV W B v l10) (f : Fr No w W) => (show Calls Tryd.prog 37 #[v] W (GivesB W [10, 2, 2]) by
    have h2 := bytesL_any B v l10 W h (hT.fr0 f) (by decide)
    rw [l10_bytes] at h2
    exact h2))
  have HA6 := hide (fun W (f : Fr No w W) => at_lit 6 [0, 1] at6 (by decide) W (hT.fr0 f))
  have HA7 := hide (fun W (f : Fr No w W) => at_lit 7 [0] at7 (by decide) W (hT.fr0 f))
  clear hT
  go_enter Tryd.func9, Tryd.ntmps9
  go_wp2_with (fail)
  refine HOf.out.mono ?_
  rintro en w1 ⟨g, gw, rfl, hbt, hfr⟩
  have B1 := hide hbt
  have F1 := hide (((Fr.refl No w).alloc (.cells #[.int .i64 1, .int .i64 9, .int .i64 10, .int .i64 (-1)] 3)).tr hfr)
  clear hbt hfr HOf
  go_wp2_with (fail)
  refine (HC.out w1 _ _ (.inr ⟨g, gw, rfl, B1.out⟩)).mono ?_
  rintro en w2 ⟨rfl, rfl⟩
  go_wp2_with (fail)
  refine (HBy.out w1 _ _ (.inr ⟨g, gw, rfl, B1.out⟩) F1.out).mono ?_
  rintro en w3 ⟨v3, rfl, hown, hfr⟩
  have O3 := hide hown
  have F3 := hide (F1.out.tr hfr)
  obtain ⟨A3, c3, rfl, p1, p2, _⟩ := hown.form
  clear hown hfr
  have p1' : 3 ≤ c3 := p1
  clear p1
  go_wp2_with (fail)
  have HBY : Hid (Calls Tryd.prog 36 #[.slice A3 3 c3, .slice (some ⟨w3.heap.size, 0, none⟩) 3 3] (w3.alloc (.cells #[.int .u8 10, .int .u8 2, .int .u8 2] 5)) (RetB true (w3.alloc (.cells #[.int .u8 10, .int .u8 2, .int .u8 2] 5)))) := hide (bytes_yes A3 _ 3 c3 3 [10, 2, 2] _ rfl p1' p2 (Nat.le_refl _) (by unfold maxLen; omega) (O3.out.fr0 ((Fr.refl No w3).alloc _)).rd (Rd.new8 w3 #[.int .u8 10, .int .u8 2, .int .u8 2] [10, 2, 2] _ rfl))
  refine HBY.out.mono ?_
  rintro en w4 ⟨rfl, hfr⟩
  have F4 := hide ((F3.out.alloc (.cells #[.int .u8 10, .int .u8 2, .int .u8 2] 5)).tr hfr)
  clear hfr HBY O3
  go_wp2_with (fail)
  refine (HA6.out w4 F4.out).mono ?_
  rintro en w5 ⟨v5, rfl, hown, hfr⟩
  have O5 := hide hown
  have F5 := hide (F4.out.tr hfr)
  obtain ⟨A5, c5, rfl, q1, q2, _⟩ := hown.form
  clear hown hfr
  have q1' : 2 ≤ c5 := q1
  clear q1
  go_wp2_with (fail)
  have HI5 : Hid (Calls Tryd.prog 34 #[.slice A5 2 c5, .slice (some ⟨w5.heap.size, 0, none⟩) 2 2] (w5.alloc (.cells #[.int .i64 0, .int .i64 1] 3)) (RetB true (w5.alloc (.cells #[.int .i64 0, .int .i64 1] 3)))) := hide (same_ints A5 _ 2 c5 2 [0, 1] _ rfl q1' q2 (Nat.le_refl _) (by unfold maxLen; omega) (O5.out.fr0 ((Fr.refl No w5).alloc _)).rd (by rw [ints_iz]; exact (Rd.lit rfl).more (by simp)))
  refine HI5.out.mono ?_
  rintro en w6 ⟨rfl, hfr⟩
  have F6 := hide ((F5.out.alloc (.cells #[.int .i64 0, .int .i64 1] 3)).tr hfr)
  clear hfr HI5 O5
  go_wp2_with (fail)
  refine (HA7.out w6 F6.out).mono ?_
  rintro en w7 ⟨v7, rfl, hown, hfr⟩
  have O7 := hide hown
  have F7 := hide (F6.out.tr hfr)
  obtain ⟨A7, c7, rfl, r1, r2, _⟩ := hown.form
  clear hown hfr
  have r1' : 1 ≤ c7 := r1
  clear r1
  go_wp2_with (fail)
  have HI7 : Hid (Calls Tryd.prog 34 #[.slice A7 1 c7, .slice (some ⟨w7.heap.size, 0, none⟩) 1 1] (w7.alloc (.cells #[.int .i64 0] 3)) (RetB true (w7.alloc (.cells #[.int .i64 0] 3)))) := hide (same_ints A7 _ 1 c7 1 [0] _ rfl r1' r2 (Nat.le_refl _) (by unfold maxLen; omega) (O7.out.fr0 ((Fr.refl No w7).alloc _)).rd (by rw [ints_iz]; exact (Rd.lit rfl).more (by simp)))
  refine HI7.out.mono ?_
  rintro en w8 ⟨rfl, hfr⟩
  have F8 := hide ((F7.out.alloc (.cells #[.int .i64 0] 3)).tr hfr)
  clear hfr HI7 O7
  go_wp2
  go_ret
  exact ⟨rfl, F8.out⟩
end Go.Proofs.YtapfbjaopbcgjaaDoor
