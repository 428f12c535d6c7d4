/- The walk of with: a set of each word of its own and of another one's. -/
import Derived.Test.YtapfbjaopbcgjaaDoorFullW
import Derived.Test.YtapfbjaopbcgjaaDoorSame14
import Derived.Deep.RegionHeld3
namespace Go.Proofs.YtapfbjaopbcgjaaDoor
set_option linter.unusedVariables false
set_option linter.unusedSimpArgs false
open Go.RowKit

theorem wd_big {l : List Bool} {k : Nat} (h : wcount l.length ≤ k) : wd l k = 0 := by
  apply Nat.eq_of_testBit_eq
  intro j
  unfold wcount at h
  rw [wd_bit, Nat.zero_testBit, hasN_big (by omega)]
  simp
theorem hasN_true (n j : Nat) : hasN (List.replicate n true) j = decide (j < n) := by
  unfold hasN
  rw [List.getD_eq_getElem?_getD, List.getElem?_replicate]
  by_cases h : j < n
  · rw [if_pos h, decide_eq_true h]; rfl
  · rw [if_neg h, decide_eq_false h]; rfl
/-- words joined bit by bit. -/
def Joins (op : Bool → Bool → Bool) (jn : Nat → Nat → Nat) : Prop := ∀ x y, x < 2 ^ 64 → y < 2 ^ 64 → jn x y < 2 ^ 64 ∧ ∀ t, t < 64 → (jn x y).testBit t = op (x.testBit t) (y.testBit t)
def joinL (op : Bool → Bool → Bool) (a b : List Bool) : List Bool := (List.range a.length).map fun j => op (hasN a j) (hasN b j)
theorem joinL_len (op : Bool → Bool → Bool) (a b : List Bool) : (joinL op a b).length = a.length := by simp [joinL]
theorem join_word {op : Bool → Bool → Bool} {jn : Nat → Nat → Nat} (hj : Joins op jn) (a b : List Bool) (n k : Nat) : (jn (wd a k) (wd b k)) &&& wd (List.replicate n true) k = wd (atK (fun j => op (hasN a j) (hasN b j)) n (64 * (k + 1))) k := by
  obtain ⟨h1, h2⟩ := hj (wd a k) (wd b k) (wd_lt _ _) (wd_lt _ _)
  refine wd_here (Nat.lt_of_le_of_lt Nat.and_le_left h1) fun j hj => ?_
  rw [Nat.testBit_and, h2 j hj, wd_bit, wd_bit, wd_bit, hasN_true, decide_eq_true hj]
  simp [Bool.and_comm]
theorem BT.keep {w w' : World} {b1 b2 g1 w1 g2 w2 : Nat} {l1 l2 : List Bool} (h : BT w b1 g1 w1 l1) (h2 : BT w b2 g2 w2 l2) (hne : w1 ≠ w2) (f : Fr (Is w2) w w') : BT w' b1 g1 w1 l1 := by
  refine h.fr f ?_ ?_
  · intro e
    have e : g1 = w2 := by cases e; rfl
    subst e
    exact h2.own.ne_blk rfl h.blk (by decide)
  · intro e
    have e : w1 = w2 := by cases e; rfl
    exact hne e

set_option maxRecDepth 100000 in
set_option maxHeartbeats 800000 in
theorem withAnd_any (op : Bool → Bool → Bool) (jn : Nat → Nat → Nat) (hj : Joins op jn) (HJ0 : ∀ (W : World) (x y : Nat), x < 18446744073709551616 → y < 18446744073709551616 → Calls Tryd.prog 46 #[.int .u64 x, .int .u64 y] W (Ret (.int .u64 (jn x y : Nat)) W))
    (B1 B2 : Nat) (v1 v2 : Value) (a b : List Bool) (w : World) (h1 : BV w B1 v1 a) (h2 : BV w B2 v2 b) (ha : a.length ≤ 16384) (hb : b.length ≤ 16384) :
    Calls Tryd.prog 45 #[v1, v2, .func (.func 46) #[] #[]] w (GivesBT w (joinL op a b)) := by
  have HJ := hide HJ0
  have HBa := hide h1
  have HBb := hide h2
  obtain ⟨n, hn⟩ : ∃ n, a.length = n := ⟨_, rfl⟩
  have HL1 := hide (fun W (f : Fr No w W) => len_any B1 v1 a W (h1.fr0 f))
  have HL2 := hide (fun W (f : Fr No w W) => len_any B2 v2 b W (h2.fr0 f))
  rw [hn] at HL1 ha
  obtain ⟨nb, hnb⟩ : ∃ nb, b.length = nb := ⟨_, rfl⟩
  rw [hnb] at HL2 hb
  have HNB := hide hnb
  clear hnb
  have HNA := hide hn
  have HN := hide (fun W => new_any (n : Nat) W (by omega) (by omega))
  have HF := hide (fun W => full_any (n : Nat) W (by omega) (by omega))
  have hk : clampN (n : Nat) = n := by unfold clampN; rw [if_neg (by omega), if_neg (by omega), Int.toNat_natCast]
  rw [hk] at HN HF
  have HJL : Hid (joinL op a b = (List.range n).map fun j => op (hasN a j) (hasN b j)) := hide (by unfold joinL; rw [hn])
  have HW := hide (fun k => join_word hj a b n k)
  have HJX : Hid (∀ k, jn (wd a k) (wd b k) < 18446744073709551616) := hide (fun k => (hj _ _ (wd_lt _ _) (wd_lt _ _)).1)
  clear h1 h2 hn hk hj HJ0
  go_enter Tryd.func45, Tryd.ntmps45
  go_wp2_with (fail)
  refine (HL1.out w (Fr.refl _ _)).mono ?_
  rintro en wx ⟨rfl, rfl⟩
  go_wp2_with (fail)
  refine (HN.out w).mono ?_
  rintro en w1 ⟨g, gw, rfl, hbt, hfr⟩
  have O1 := hide hbt
  have F1 := hide hfr
  clear hbt hfr
  go_wp2_with (fail)
  refine (HL1.out w1 F1.out).mono ?_
  rintro en wx ⟨rfl, rfl⟩
  go_wp2_with (fail)
  refine (HF.out w1).mono ?_
  rintro en w2 ⟨gm, gwm, rfl, hbt, hfr⟩
  have M2 := hide hbt
  have F2 := hide (F1.out.tr hfr)
  have O2 := hide (O1.out.fr0 hfr)
  have hne : gwm ≠ gw := by
    have x1 := hbt.lt.2.2.1
    have x2 := O1.out.lt.2.2.2
    omega
  have HNE := hide hne
  have b0 := O2.out.cell0
  rw [List.length_replicate] at b0
  have hwc : wcount n = (n + 63) / 64 := rfl
  have HWC := hide hwc
  have hw256 : wcount n ≤ 256 := by omega
  generalize wcount n = m at b0 hw256 HWC
  clear hbt hfr hwc hne HN HF O1 F1
  go_wp2_with (fail)
  clear b0
  go_loopw [9, 10, 22] (fun u9 u10 i wr => ∃ k : Nat, k ≤ m ∧ i = .int .i64 k ∧ Hid (BT wr w.heap.size g gw (atK (fun j => op (hasN a j) (hasN b j)) n (64 * k))) ∧ Hid (BT wr w1.heap.size gm gwm (List.replicate n true)) ∧ Hid (Fr No w wr)) (fun _ _ i _ => m - (intOf i).toNat)
  case atStart => exact ⟨0, by omega, rfl, hide (by rw [Nat.mul_zero, atK_zero]; exact O2.out), M2, F2⟩
  case round =>
    clear O2 M2 F2
    obtain ⟨k, hk, rfl, OW, MW, FW⟩ := hrel
    by_cases hlt : k < m
    · have hlen := HL2.out wr FW.out
      have HLn := hide hlen
      clear hlen
      have o0 := OW.out.cell0
      have m0 := MW.out.cell0
      rw [atK_len] at o0
      rw [List.length_replicate] at m0
      have hq : k < wcount n := by have := HWC.out; unfold wcount; omega
      have ow := OW.out.word (i := k) (by rw [atK_len]; exact hq)
      have mw := MW.out.word (i := k) (by rw [List.length_replicate]; exact hq)
      have hfz := OW.out.frozen k
      obtain ⟨ga, gwa, rfl, hba, hga, hgwa⟩ : ∃ ga gwa, v1 = .pointer (some ⟨ga, 0, none⟩) ∧ BT wr B1 ga gwa a ∧ ga < w.heap.size ∧ gwa < w.heap.size := by
        rcases HBa.out with ⟨_, h⟩ | ⟨ga, gwa, h, hb⟩
        · have := HNA.out
          rw [h] at this
          simp at this
          subst this
          exact absurd hq (by simp [wcount])
        · exact ⟨ga, gwa, h, hb.fr0 FW.out, hb.lt.2.1, hb.lt.2.2.2⟩
      have a0 := hba.cell0
      have aw := hba.word (i := k) (by rw [HNA.out]; exact hq)
      rw [HNA.out] at a0
      rw [show wcount n = m from HWC.out.symm] at o0 m0 a0
      have hx := wd_lt a k
      have hy := wd_lt b k
      have hmz := wd_lt (List.replicate n true) k
      have HST := hide (fun v (hv : v = jn (wd a k) (wd b k) &&& wd (List.replicate n true) k) => OW.out.put (l' := atK (fun j => op (hasN a j) (hasN b j)) n (64 * (k + 1))) (q := k) (v := v) (by rw [atK_len]; exact hq) (by rw [atK_len, atK_len]) (fun i hi => wd_word hi) (by rw [hv]; exact HW.out k))
      have HFR : Hid (∀ v, Fr (Is gw) wr (wr.setCell ⟨gw, k, none⟩ v)) := hide (fun v => (Fr.refl (Is gw) wr).setCell (p := ⟨gw, k, none⟩) (fun _ => rfl) v)
      have hjx := HJX.out k
      have hwb : wcount nb ≤ k → wd b k = 0 := fun h => wd_big (by rw [HNB.out]; exact h)
      have hbw : k < wcount nb → ∃ gb gwb, v2 = .pointer (some ⟨gb, 0, none⟩) ∧ wr.cell? ⟨gb, 0, none⟩ = some (.slice (some ⟨gwb, 0, none⟩) (wcount nb) (wcount nb)) ∧ wr.cell? ⟨gwb, k, none⟩ = some (.int .u64 (wd b k : Nat)) := fun h => by
        rcases HBb.out with ⟨_, e⟩ | ⟨gb, gwb, e, hb⟩
        · have := HNB.out
          rw [e] at this
          simp at this
          subst this
          exact absurd h (by simp [wcount])
        · have hb2 := hb.fr0 FW.out
          refine ⟨gb, gwb, e, ?_, hb2.word (by rw [HNB.out]; exact h)⟩
          rw [← HNB.out]
          exact hb2.cell0
      generalize wd a k = x at aw hx HST hjx
      generalize wd b k = y at hwb hbw hy HST hjx
      generalize wd (List.replicate n true) k = z at mw hmz HST
      generalize wd (atK (fun j => op (hasN a j) (hasN b j)) n (64 * k)) k = old at ow
      have HAND := hide (u64_and_nat (jn x y) z hjx hmz)
      have HJJ := hide (fun W => HJ.out W x y hx hy)
      have hkc : (k : Int) < (m : Int) := by omega
      have hwcb : wcount nb = (nb + 63) / 64 := rfl
      have hlow := OW.out.lt.2.2.1
      have HK0 : Hid ((fun W : World => W.cell? ⟨g, 0, none⟩ = some (.slice (some ⟨gw, 0, none⟩) m m) ∧ W.cell? ⟨ga, 0, none⟩ = some (.slice (some ⟨gwa, 0, none⟩) m m) ∧ W.cell? ⟨gwa, k, none⟩ = some (.int .u64 (x : Nat)) ∧ W.cell? ⟨gm, 0, none⟩ = some (.slice (some ⟨gwm, 0, none⟩) m m) ∧ W.cell? ⟨gwm, k, none⟩ = some (.int .u64 (z : Nat))) wr.drew) := hide ⟨o0, a0, aw, m0, mw⟩
      have HKv : Hid (∀ v, (fun W : World => W.cell? ⟨g, 0, none⟩ = some (.slice (some ⟨gw, 0, none⟩) m m) ∧ W.cell? ⟨ga, 0, none⟩ = some (.slice (some ⟨gwa, 0, none⟩) m m) ∧ W.cell? ⟨gwa, k, none⟩ = some (.int .u64 (x : Nat)) ∧ W.cell? ⟨gm, 0, none⟩ = some (.slice (some ⟨gwm, 0, none⟩) m m) ∧ W.cell? ⟨gwm, k, none⟩ = some (.int .u64 (z : Nat))) (wr.setCell ⟨gw, k, none⟩ v).drew) := hide (fun v => by
        have f := HFR.out v
        refine ⟨f.cell (p := ⟨g, 0, none⟩) o0 ?_, f.cell (p := ⟨ga, 0, none⟩) a0 ?_, f.cell (p := ⟨gwa, k, none⟩) aw ?_, f.cell (p := ⟨gm, 0, none⟩) m0 ?_, f.cell (p := ⟨gwm, k, none⟩) mw ?_⟩
        · intro e
          exact OW.out.ne (by cases e; rfl)
        · intro e
          have e : ga = gw := by cases e; rfl
          omega
        · intro e
          have e : gwa = gw := by cases e; rfl
          omega
        · intro e
          have e : gm = gw := by cases e; rfl
          subst e
          exact OW.out.own.ne_blk rfl MW.out.blk (by decide)
        · intro e
          exact HNE.out (by cases e; rfl))
      clear hba hq hx hmz hga hgwa hlow
      by_cases hin : k < wcount nb
      · have hd : decide ((k : Int) < ((nb : Int) + 63) / 64) = true := decide_eq_true (by omega)
        obtain ⟨gb, gwb, rfl, c0, cw⟩ := hbw hin
        have hkb : (k : Int) < ((wcount nb : Nat) : Int) := by omega
        have hwb256 : wcount nb ≤ 256 := by omega
        generalize wcount nb = mb at c0 hkb hwb256 hin
        clear hwb hbw hy hwcb hin hjx
        go_wp2_with (fail)
        refine HLn.out.mono ?_
        rintro en wx ⟨rfl, rfl⟩
        go_wp2_with (fail)
        go_region_held3 (fun W => W.cell? ⟨g, 0, none⟩ = some (.slice (some ⟨gw, 0, none⟩) m m) ∧ W.cell? ⟨ga, 0, none⟩ = some (.slice (some ⟨gwa, 0, none⟩) m m) ∧ W.cell? ⟨gwa, k, none⟩ = some (.int .u64 (x : Nat)) ∧ W.cell? ⟨gm, 0, none⟩ = some (.slice (some ⟨gwm, 0, none⟩) m m) ∧ W.cell? ⟨gwm, k, none⟩ = some (.int .u64 (z : Nat))) (first | exact HK0.out | exact HKv.out _ | assumption) (first | (go_at_call 46; refine (HJJ.out _).mono ?_; rintro en wx ⟨rfl, rfl⟩))
        go_wp2_with (fail)
        go_roundw
        case rel =>
          rw [HAND.out]
          exact ⟨k + 1, by omega, by go_num, hide ((HST.out _ rfl).fr0 ((Fr.refl No _).drew)), hide ((MW.out.keep OW.out HNE.out (HFR.out _)).fr0 ((Fr.refl No _).drew)), hide ((FW.out.own1 (HFR.out _) OW.out.lt.2.2.1).drew)⟩
        case measure => simp [intOf]; omega
      · have hd : decide ((k : Int) < ((nb : Int) + 63) / 64) = false := decide_eq_false (by omega)
        have hy0 := hwb (by omega)
        subst hy0
        clear hwb hbw hy hwcb hin hjx
        rw [show ((0 : Nat) : Int) = 0 from rfl] at HJJ
        go_wp2_with (fail)
        refine HLn.out.mono ?_
        rintro en wx ⟨rfl, rfl⟩
        go_wp2_with (fail)
        go_region_held3 (fun W => W.cell? ⟨g, 0, none⟩ = some (.slice (some ⟨gw, 0, none⟩) m m) ∧ W.cell? ⟨ga, 0, none⟩ = some (.slice (some ⟨gwa, 0, none⟩) m m) ∧ W.cell? ⟨gwa, k, none⟩ = some (.int .u64 (x : Nat)) ∧ W.cell? ⟨gm, 0, none⟩ = some (.slice (some ⟨gwm, 0, none⟩) m m) ∧ W.cell? ⟨gwm, k, none⟩ = some (.int .u64 (z : Nat))) (first | exact HK0.out | exact HKv.out _ | assumption) (first | (go_at_call 46; refine (HJJ.out _).mono ?_; rintro en wx ⟨rfl, rfl⟩))
        go_wp2_with (fail)
        go_roundw
        case rel =>
          rw [HAND.out]
          exact ⟨k + 1, by omega, by go_num, hide ((HST.out _ rfl).fr0 ((Fr.refl No _).drew)), hide ((MW.out.keep OW.out HNE.out (HFR.out _)).fr0 ((Fr.refl No _).drew)), hide ((FW.out.own1 (HFR.out _) OW.out.lt.2.2.1).drew)⟩
        case measure => simp [intOf]; omega
    · obtain rfl : k = m := by omega
      have HB : Hid (BT wr w.heap.size g gw (joinL op a b)) := hide (by
        have h := OW.out
        rw [atK_top (by have := HWC.out; omega)] at h
        rw [HJL.out]
        exact h)
      go_wp2_with (fail)
      go_ret
      exact ⟨_, _, rfl, HB.out, FW.out⟩
set_option maxRecDepth 100000 in
set_option maxHeartbeats 800000 in
theorem withOr_any (op : Bool → Bool → Bool) (jn : Nat → Nat → Nat) (hj : Joins op jn) (HJ0 : ∀ (W : World) (x y : Nat), x < 18446744073709551616 → y < 18446744073709551616 → Calls Tryd.prog 48 #[.int .u64 x, .int .u64 y] W (Ret (.int .u64 (jn x y : Nat)) W))
    (B1 B2 : Nat) (v1 v2 : Value) (a b : List Bool) (w : World) (h1 : BV w B1 v1 a) (h2 : BV w B2 v2 b) (ha : a.length ≤ 16384) (hb : b.length ≤ 16384) :
    Calls Tryd.prog 45 #[v1, v2, .func (.func 48) #[] #[]] w (GivesBT w (joinL op a b)) := by
  have HJ := hide HJ0
  have HBa := hide h1
  have HBb := hide h2
  obtain ⟨n, hn⟩ : ∃ n, a.length = n := ⟨_, rfl⟩
  have HL1 := hide (fun W (f : Fr No w W) => len_any B1 v1 a W (h1.fr0 f))
  have HL2 := hide (fun W (f : Fr No w W) => len_any B2 v2 b W (h2.fr0 f))
  rw [hn] at HL1 ha
  obtain ⟨nb, hnb⟩ : ∃ nb, b.length = nb := ⟨_, rfl⟩
  rw [hnb] at HL2 hb
  have HNB := hide hnb
  clear hnb
  have HNA := hide hn
  have HN := hide (fun W => new_any (n : Nat) W (by omega) (by omega))
  have HF := hide (fun W => full_any (n : Nat) W (by omega) (by omega))
  have hk : clampN (n : Nat) = n := by unfold clampN; rw [if_neg (by omega), if_neg (by omega), Int.toNat_natCast]
  rw [hk] at HN HF
  have HJL : Hid (joinL op a b = (List.range n).map fun j => op (hasN a j) (hasN b j)) := hide (by unfold joinL; rw [hn])
  have HW := hide (fun k => join_word hj a b n k)
  have HJX : Hid (∀ k, jn (wd a k) (wd b k) < 18446744073709551616) := hide (fun k => (hj _ _ (wd_lt _ _) (wd_lt _ _)).1)
  clear h1 h2 hn hk hj HJ0
  go_enter Tryd.func45, Tryd.ntmps45
  go_wp2_with (fail)
  refine (HL1.out w (Fr.refl _ _)).mono ?_
  rintro en wx ⟨rfl, rfl⟩
  go_wp2_with (fail)
  refine (HN.out w).mono ?_
  rintro en w1 ⟨g, gw, rfl, hbt, hfr⟩
  have O1 := hide hbt
  have F1 := hide hfr
  clear hbt hfr
  go_wp2_with (fail)
  refine (HL1.out w1 F1.out).mono ?_
  rintro en wx ⟨rfl, rfl⟩
  go_wp2_with (fail)
  refine (HF.out w1).mono ?_
  rintro en w2 ⟨gm, gwm, rfl, hbt, hfr⟩
  have M2 := hide hbt
  have F2 := hide (F1.out.tr hfr)
  have O2 := hide (O1.out.fr0 hfr)
  have hne : gwm ≠ gw := by
    have x1 := hbt.lt.2.2.1
    have x2 := O1.out.lt.2.2.2
    omega
  have HNE := hide hne
  have b0 := O2.out.cell0
  rw [List.length_replicate] at b0
  have hwc : wcount n = (n + 63) / 64 := rfl
  have HWC := hide hwc
  have hw256 : wcount n ≤ 256 := by omega
  generalize wcount n = m at b0 hw256 HWC
  clear hbt hfr hwc hne HN HF O1 F1
  go_wp2_with (fail)
  clear b0
  go_loopw [9, 10, 22] (fun u9 u10 i wr => ∃ k : Nat, k ≤ m ∧ i = .int .i64 k ∧ Hid (BT wr w.heap.size g gw (atK (fun j => op (hasN a j) (hasN b j)) n (64 * k))) ∧ Hid (BT wr w1.heap.size gm gwm (List.replicate n true)) ∧ Hid (Fr No w wr)) (fun _ _ i _ => m - (intOf i).toNat)
  case atStart => exact ⟨0, by omega, rfl, hide (by rw [Nat.mul_zero, atK_zero]; exact O2.out), M2, F2⟩
  case round =>
    clear O2 M2 F2
    obtain ⟨k, hk, rfl, OW, MW, FW⟩ := hrel
    by_cases hlt : k < m
    · have hlen := HL2.out wr FW.out
      have HLn := hide hlen
      clear hlen
      have o0 := OW.out.cell0
      have m0 := MW.out.cell0
      rw [atK_len] at o0
      rw [List.length_replicate] at m0
      have hq : k < wcount n := by have := HWC.out; unfold wcount; omega
      have ow := OW.out.word (i := k) (by rw [atK_len]; exact hq)
      have mw := MW.out.word (i := k) (by rw [List.length_replicate]; exact hq)
      have hfz := OW.out.frozen k
      obtain ⟨ga, gwa, rfl, hba, hga, hgwa⟩ : ∃ ga gwa, v1 = .pointer (some ⟨ga, 0, none⟩) ∧ BT wr B1 ga gwa a ∧ ga < w.heap.size ∧ gwa < w.heap.size := by
        rcases HBa.out with ⟨_, h⟩ | ⟨ga, gwa, h, hb⟩
        · have := HNA.out
          rw [h] at this
          simp at this
          subst this
          exact absurd hq (by simp [wcount])
        · exact ⟨ga, gwa, h, hb.fr0 FW.out, hb.lt.2.1, hb.lt.2.2.2⟩
      have a0 := hba.cell0
      have aw := hba.word (i := k) (by rw [HNA.out]; exact hq)
      rw [HNA.out] at a0
      rw [show wcount n = m from HWC.out.symm] at o0 m0 a0
      have hx := wd_lt a k
      have hy := wd_lt b k
      have hmz := wd_lt (List.replicate n true) k
      have HST := hide (fun v (hv : v = jn (wd a k) (wd b k) &&& wd (List.replicate n true) k) => OW.out.put (l' := atK (fun j => op (hasN a j) (hasN b j)) n (64 * (k + 1))) (q := k) (v := v) (by rw [atK_len]; exact hq) (by rw [atK_len, atK_len]) (fun i hi => wd_word hi) (by rw [hv]; exact HW.out k))
      have HFR : Hid (∀ v, Fr (Is gw) wr (wr.setCell ⟨gw, k, none⟩ v)) := hide (fun v => (Fr.refl (Is gw) wr).setCell (p := ⟨gw, k, none⟩) (fun _ => rfl) v)
      have hjx := HJX.out k
      have hwb : wcount nb ≤ k → wd b k = 0 := fun h => wd_big (by rw [HNB.out]; exact h)
      have hbw : k < wcount nb → ∃ gb gwb, v2 = .pointer (some ⟨gb, 0, none⟩) ∧ wr.cell? ⟨gb, 0, none⟩ = some (.slice (some ⟨gwb, 0, none⟩) (wcount nb) (wcount nb)) ∧ wr.cell? ⟨gwb, k, none⟩ = some (.int .u64 (wd b k : Nat)) := fun h => by
        rcases HBb.out with ⟨_, e⟩ | ⟨gb, gwb, e, hb⟩
        · have := HNB.out
          rw [e] at this
          simp at this
          subst this
          exact absurd h (by simp [wcount])
        · have hb2 := hb.fr0 FW.out
          refine ⟨gb, gwb, e, ?_, hb2.word (by rw [HNB.out]; exact h)⟩
          rw [← HNB.out]
          exact hb2.cell0
      generalize wd a k = x at aw hx HST hjx
      generalize wd b k = y at hwb hbw hy HST hjx
      generalize wd (List.replicate n true) k = z at mw hmz HST
      generalize wd (atK (fun j => op (hasN a j) (hasN b j)) n (64 * k)) k = old at ow
      have HAND := hide (u64_and_nat (jn x y) z hjx hmz)
      have HJJ := hide (fun W => HJ.out W x y hx hy)
      have hkc : (k : Int) < (m : Int) := by omega
      have hwcb : wcount nb = (nb + 63) / 64 := rfl
      have hlow := OW.out.lt.2.2.1
      have HK0 : Hid ((fun W : World => W.cell? ⟨g, 0, none⟩ = some (.slice (some ⟨gw, 0, none⟩) m m) ∧ W.cell? ⟨ga, 0, none⟩ = some (.slice (some ⟨gwa, 0, none⟩) m m) ∧ W.cell? ⟨gwa, k, none⟩ = some (.int .u64 (x : Nat)) ∧ W.cell? ⟨gm, 0, none⟩ = some (.slice (some ⟨gwm, 0, none⟩) m m) ∧ W.cell? ⟨gwm, k, none⟩ = some (.int .u64 (z : Nat))) wr.drew) := hide ⟨o0, a0, aw, m0, mw⟩
      have HKv : Hid (∀ v, (fun W : World => W.cell? ⟨g, 0, none⟩ = some (.slice (some ⟨gw, 0, none⟩) m m) ∧ W.cell? ⟨ga, 0, none⟩ = some (.slice (some ⟨gwa, 0, none⟩) m m) ∧ W.cell? ⟨gwa, k, none⟩ = some (.int .u64 (x : Nat)) ∧ W.cell? ⟨gm, 0, none⟩ = some (.slice (some ⟨gwm, 0, none⟩) m m) ∧ W.cell? ⟨gwm, k, none⟩ = some (.int .u64 (z : Nat))) (wr.setCell ⟨gw, k, none⟩ v).drew) := hide (fun v => by
        have f := HFR.out v
        refine ⟨f.cell (p := ⟨g, 0, none⟩) o0 ?_, f.cell (p := ⟨ga, 0, none⟩) a0 ?_, f.cell (p := ⟨gwa, k, none⟩) aw ?_, f.cell (p := ⟨gm, 0, none⟩) m0 ?_, f.cell (p := ⟨gwm, k, none⟩) mw ?_⟩
        · intro e
          exact OW.out.ne (by cases e; rfl)
        · intro e
          have e : ga = gw := by cases e; rfl
          omega
        · intro e
          have e : gwa = gw := by cases e; rfl
          omega
        · intro e
          have e : gm = gw := by cases e; rfl
          subst e
          exact OW.out.own.ne_blk rfl MW.out.blk (by decide)
        · intro e
          exact HNE.out (by cases e; rfl))
      clear hba hq hx hmz hga hgwa hlow
      by_cases hin : k < wcount nb
      · have hd : decide ((k : Int) < ((nb : Int) + 63) / 64) = true := decide_eq_true (by omega)
        obtain ⟨gb, gwb, rfl, c0, cw⟩ := hbw hin
        have hkb : (k : Int) < ((wcount nb : Nat) : Int) := by omega
        have hwb256 : wcount nb ≤ 256 := by omega
        generalize wcount nb = mb at c0 hkb hwb256 hin
        clear hwb hbw hy hwcb hin hjx
        go_wp2_with (fail)
        refine HLn.out.mono ?_
        rintro en wx ⟨rfl, rfl⟩
        go_wp2_with (fail)
        go_region_held3 (fun W => W.cell? ⟨g, 0, none⟩ = some (.slice (some ⟨gw, 0, none⟩) m m) ∧ W.cell? ⟨ga, 0, none⟩ = some (.slice (some ⟨gwa, 0, none⟩) m m) ∧ W.cell? ⟨gwa, k, none⟩ = some (.int .u64 (x : Nat)) ∧ W.cell? ⟨gm, 0, none⟩ = some (.slice (some ⟨gwm, 0, none⟩) m m) ∧ W.cell? ⟨gwm, k, none⟩ = some (.int .u64 (z : Nat))) (first | exact HK0.out | exact HKv.out _ | assumption) (first | (go_at_call 48; refine (HJJ.out _).mono ?_; rintro en wx ⟨rfl, rfl⟩))
        go_wp2_with (fail)
        go_roundw
        case rel =>
          rw [HAND.out]
          exact ⟨k + 1, by omega, by go_num, hide ((HST.out _ rfl).fr0 ((Fr.refl No _).drew)), hide ((MW.out.keep OW.out HNE.out (HFR.out _)).fr0 ((Fr.refl No _).drew)), hide ((FW.out.own1 (HFR.out _) OW.out.lt.2.2.1).drew)⟩
        case measure => simp [intOf]; omega
      · have hd : decide ((k : Int) < ((nb : Int) + 63) / 64) = false := decide_eq_false (by omega)
        have hy0 := hwb (by omega)
        subst hy0
        clear hwb hbw hy hwcb hin hjx
        rw [show ((0 : Nat) : Int) = 0 from rfl] at HJJ
        go_wp2_with (fail)
        refine HLn.out.mono ?_
        rintro en wx ⟨rfl, rfl⟩
        go_wp2_with (fail)
        go_region_held3 (fun W => W.cell? ⟨g, 0, none⟩ = some (.slice (some ⟨gw, 0, none⟩) m m) ∧ W.cell? ⟨ga, 0, none⟩ = some (.slice (some ⟨gwa, 0, none⟩) m m) ∧ W.cell? ⟨gwa, k, none⟩ = some (.int .u64 (x : Nat)) ∧ W.cell? ⟨gm, 0, none⟩ = some (.slice (some ⟨gwm, 0, none⟩) m m) ∧ W.cell? ⟨gwm, k, none⟩ = some (.int .u64 (z : Nat))) (first | exact HK0.out | exact HKv.out _ | assumption) (first | (go_at_call 48; refine (HJJ.out _).mono ?_; rintro en wx ⟨rfl, rfl⟩))
        go_wp2_with (fail)
        go_roundw
        case rel =>
          rw [HAND.out]
          exact ⟨k + 1, by omega, by go_num, hide ((HST.out _ rfl).fr0 ((Fr.refl No _).drew)), hide ((MW.out.keep OW.out HNE.out (HFR.out _)).fr0 ((Fr.refl No _).drew)), hide ((FW.out.own1 (HFR.out _) OW.out.lt.2.2.1).drew)⟩
        case measure => simp [intOf]; omega
    · obtain rfl : k = m := by omega
      have HB : Hid (BT wr w.heap.size g gw (joinL op a b)) := hide (by
        have h := OW.out
        rw [atK_top (by have := HWC.out; omega)] at h
        rw [HJL.out]
        exact h)
      go_wp2_with (fail)
      go_ret
      exact ⟨_, _, rfl, HB.out, FW.out⟩
set_option maxRecDepth 100000 in
set_option maxHeartbeats 800000 in
theorem withMinus_any (op : Bool → Bool → Bool) (jn : Nat → Nat → Nat) (hj : Joins op jn) (HJ0 : ∀ (W : World) (x y : Nat), x < 18446744073709551616 → y < 18446744073709551616 → Calls Tryd.prog 49 #[.int .u64 x, .int .u64 y] W (Ret (.int .u64 (jn x y : Nat)) W))
    (B1 B2 : Nat) (v1 v2 : Value) (a b : List Bool) (w : World) (h1 : BV w B1 v1 a) (h2 : BV w B2 v2 b) (ha : a.length ≤ 16384) (hb : b.length ≤ 16384) :
    Calls Tryd.prog 45 #[v1, v2, .func (.func 49) #[] #[]] w (GivesBT w (joinL op a b)) := by
  have HJ := hide HJ0
  have HBa := hide h1
  have HBb := hide h2
  obtain ⟨n, hn⟩ : ∃ n, a.length = n := ⟨_, rfl⟩
  have HL1 := hide (fun W (f : Fr No w W) => len_any B1 v1 a W (h1.fr0 f))
  have HL2 := hide (fun W (f : Fr No w W) => len_any B2 v2 b W (h2.fr0 f))
  rw [hn] at HL1 ha
  obtain ⟨nb, hnb⟩ : ∃ nb, b.length = nb := ⟨_, rfl⟩
  rw [hnb] at HL2 hb
  have HNB := hide hnb
  clear hnb
  have HNA := hide hn
  have HN := hide (fun W => new_any (n : Nat) W (by omega) (by omega))
  have HF := hide (fun W => full_any (n : Nat) W (by omega) (by omega))
  have hk : clampN (n : Nat) = n := by unfold clampN; rw [if_neg (by omega), if_neg (by omega), Int.toNat_natCast]
  rw [hk] at HN HF
  have HJL : Hid (joinL op a b = (List.range n).map fun j => op (hasN a j) (hasN b j)) := hide (by unfold joinL; rw [hn])
  have HW := hide (fun k => join_word hj a b n k)
  have HJX : Hid (∀ k, jn (wd a k) (wd b k) < 18446744073709551616) := hide (fun k => (hj _ _ (wd_lt _ _) (wd_lt _ _)).1)
  clear h1 h2 hn hk hj HJ0
  go_enter Tryd.func45, Tryd.ntmps45
  go_wp2_with (fail)
  refine (HL1.out w (Fr.refl _ _)).mono ?_
  rintro en wx ⟨rfl, rfl⟩
  go_wp2_with (fail)
  refine (HN.out w).mono ?_
  rintro en w1 ⟨g, gw, rfl, hbt, hfr⟩
  have O1 := hide hbt
  have F1 := hide hfr
  clear hbt hfr
  go_wp2_with (fail)
  refine (HL1.out w1 F1.out).mono ?_
  rintro en wx ⟨rfl, rfl⟩
  go_wp2_with (fail)
  refine (HF.out w1).mono ?_
  rintro en w2 ⟨gm, gwm, rfl, hbt, hfr⟩
  have M2 := hide hbt
  have F2 := hide (F1.out.tr hfr)
  have O2 := hide (O1.out.fr0 hfr)
  have hne : gwm ≠ gw := by
    have x1 := hbt.lt.2.2.1
    have x2 := O1.out.lt.2.2.2
    omega
  have HNE := hide hne
  have b0 := O2.out.cell0
  rw [List.length_replicate] at b0
  have hwc : wcount n = (n + 63) / 64 := rfl
  have HWC := hide hwc
  have hw256 : wcount n ≤ 256 := by omega
  generalize wcount n = m at b0 hw256 HWC
  clear hbt hfr hwc hne HN HF O1 F1
  go_wp2_with (fail)
  clear b0
  go_loopw [9, 10, 22] (fun u9 u10 i wr => ∃ k : Nat, k ≤ m ∧ i = .int .i64 k ∧ Hid (BT wr w.heap.size g gw (atK (fun j => op (hasN a j) (hasN b j)) n (64 * k))) ∧ Hid (BT wr w1.heap.size gm gwm (List.replicate n true)) ∧ Hid (Fr No w wr)) (fun _ _ i _ => m - (intOf i).toNat)
  case atStart => exact ⟨0, by omega, rfl, hide (by rw [Nat.mul_zero, atK_zero]; exact O2.out), M2, F2⟩
  case round =>
    clear O2 M2 F2
    obtain ⟨k, hk, rfl, OW, MW, FW⟩ := hrel
    by_cases hlt : k < m
    · have hlen := HL2.out wr FW.out
      have HLn := hide hlen
      clear hlen
      have o0 := OW.out.cell0
      have m0 := MW.out.cell0
      rw [atK_len] at o0
      rw [List.length_replicate] at m0
      have hq : k < wcount n := by have := HWC.out; unfold wcount; omega
      have ow := OW.out.word (i := k) (by rw [atK_len]; exact hq)
      have mw := MW.out.word (i := k) (by rw [List.length_replicate]; exact hq)
      have hfz := OW.out.frozen k
      obtain ⟨ga, gwa, rfl, hba, hga, hgwa⟩ : ∃ ga gwa, v1 = .pointer (some ⟨ga, 0, none⟩) ∧ BT wr B1 ga gwa a ∧ ga < w.heap.size ∧ gwa < w.heap.size := by
        rcases HBa.out with ⟨_, h⟩ | ⟨ga, gwa, h, hb⟩
        · have := HNA.out
          rw [h] at this
          simp at this
          subst this
          exact absurd hq (by simp [wcount])
        · exact ⟨ga, gwa, h, hb.fr0 FW.out, hb.lt.2.1, hb.lt.2.2.2⟩
      have a0 := hba.cell0
      have aw := hba.word (i := k) (by rw [HNA.out]; exact hq)
      rw [HNA.out] at a0
      rw [show wcount n = m from HWC.out.symm] at o0 m0 a0
      have hx := wd_lt a k
      have hy := wd_lt b k
      have hmz := wd_lt (List.replicate n true) k
      have HST := hide (fun v (hv : v = jn (wd a k) (wd b k) &&& wd (List.replicate n true) k) => OW.out.put (l' := atK (fun j => op (hasN a j) (hasN b j)) n (64 * (k + 1))) (q := k) (v := v) (by rw [atK_len]; exact hq) (by rw [atK_len, atK_len]) (fun i hi => wd_word hi) (by rw [hv]; exact HW.out k))
      have HFR : Hid (∀ v, Fr (Is gw) wr (wr.setCell ⟨gw, k, none⟩ v)) := hide (fun v => (Fr.refl (Is gw) wr).setCell (p := ⟨gw, k, none⟩) (fun _ => rfl) v)
      have hjx := HJX.out k
      have hwb : wcount nb ≤ k → wd b k = 0 := fun h => wd_big (by rw [HNB.out]; exact h)
      have hbw : k < wcount nb → ∃ gb gwb, v2 = .pointer (some ⟨gb, 0, none⟩) ∧ wr.cell? ⟨gb, 0, none⟩ = some (.slice (some ⟨gwb, 0, none⟩) (wcount nb) (wcount nb)) ∧ wr.cell? ⟨gwb, k, none⟩ = some (.int .u64 (wd b k : Nat)) := fun h => by
        rcases HBb.out with ⟨_, e⟩ | ⟨gb, gwb, e, hb⟩
        · have := HNB.out
          rw [e] at this
          simp at this
          subst this
          exact absurd h (by simp [wcount])
        · have hb2 := hb.fr0 FW.out
          refine ⟨gb, gwb, e, ?_, hb2.word (by rw [HNB.out]; exact h)⟩
          rw [← HNB.out]
          exact hb2.cell0
      generalize wd a k = x at aw hx HST hjx
      generalize wd b k = y at hwb hbw hy HST hjx
      generalize wd (List.replicate n true) k = z at mw hmz HST
      generalize wd (atK (fun j => op (hasN a j) (hasN b j)) n (64 * k)) k = old at ow
      have HAND := hide (u64_and_nat (jn x y) z hjx hmz)
      have HJJ := hide (fun W => HJ.out W x y hx hy)
      have hkc : (k : Int) < (m : Int) := by omega
      have hwcb : wcount nb = (nb + 63) / 64 := rfl
      have hlow := OW.out.lt.2.2.1
      have HK0 : Hid ((fun W : World => W.cell? ⟨g, 0, none⟩ = some (.slice (some ⟨gw, 0, none⟩) m m) ∧ W.cell? ⟨ga, 0, none⟩ = some (.slice (some ⟨gwa, 0, none⟩) m m) ∧ W.cell? ⟨gwa, k, none⟩ = some (.int .u64 (x : Nat)) ∧ W.cell? ⟨gm, 0, none⟩ = some (.slice (some ⟨gwm, 0, none⟩) m m) ∧ W.cell? ⟨gwm, k, none⟩ = some (.int .u64 (z : Nat))) wr.drew) := hide ⟨o0, a0, aw, m0, mw⟩
      have HKv : Hid (∀ v, (fun W : World => W.cell? ⟨g, 0, none⟩ = some (.slice (some ⟨gw, 0, none⟩) m m) ∧ W.cell? ⟨ga, 0, none⟩ = some (.slice (some ⟨gwa, 0, none⟩) m m) ∧ W.cell? ⟨gwa, k, none⟩ = some (.int .u64 (x : Nat)) ∧ W.cell? ⟨gm, 0, none⟩ = some (.slice (some ⟨gwm, 0, none⟩) m m) ∧ W.cell? ⟨gwm, k, none⟩ = some (.int .u64 (z : Nat))) (wr.setCell ⟨gw, k, none⟩ v).drew) := hide (fun v => by
        have f := HFR.out v
        refine ⟨f.cell (p := ⟨g, 0, none⟩) o0 ?_, f.cell (p := ⟨ga, 0, none⟩) a0 ?_, f.cell (p := ⟨gwa, k, none⟩) aw ?_, f.cell (p := ⟨gm, 0, none⟩) m0 ?_, f.cell (p := ⟨gwm, k, none⟩) mw ?_⟩
        · intro e
          exact OW.out.ne (by cases e; rfl)
        · intro e
          have e : ga = gw := by cases e; rfl
          omega
        · intro e
          have e : gwa = gw := by cases e; rfl
          omega
        · intro e
          have e : gm = gw := by cases e; rfl
          subst e
          exact OW.out.own.ne_blk rfl MW.out.blk (by decide)
        · intro e
          exact HNE.out (by cases e; rfl))
      clear hba hq hx hmz hga hgwa hlow
      by_cases hin : k < wcount nb
      · have hd : decide ((k : Int) < ((nb : Int) + 63) / 64) = true := decide_eq_true (by omega)
        obtain ⟨gb, gwb, rfl, c0, cw⟩ := hbw hin
        have hkb : (k : Int) < ((wcount nb : Nat) : Int) := by omega
        have hwb256 : wcount nb ≤ 256 := by omega
        generalize wcount nb = mb at c0 hkb hwb256 hin
        clear hwb hbw hy hwcb hin hjx
        go_wp2_with (fail)
        refine HLn.out.mono ?_
        rintro en wx ⟨rfl, rfl⟩
        go_wp2_with (fail)
        go_region_held3 (fun W => W.cell? ⟨g, 0, none⟩ = some (.slice (some ⟨gw, 0, none⟩) m m) ∧ W.cell? ⟨ga, 0, none⟩ = some (.slice (some ⟨gwa, 0, none⟩) m m) ∧ W.cell? ⟨gwa, k, none⟩ = some (.int .u64 (x : Nat)) ∧ W.cell? ⟨gm, 0, none⟩ = some (.slice (some ⟨gwm, 0, none⟩) m m) ∧ W.cell? ⟨gwm, k, none⟩ = some (.int .u64 (z : Nat))) (first | exact HK0.out | exact HKv.out _ | assumption) (first | (go_at_call 49; refine (HJJ.out _).mono ?_; rintro en wx ⟨rfl, rfl⟩))
        go_wp2_with (fail)
        go_roundw
        case rel =>
          rw [HAND.out]
          exact ⟨k + 1, by omega, by go_num, hide ((HST.out _ rfl).fr0 ((Fr.refl No _).drew)), hide ((MW.out.keep OW.out HNE.out (HFR.out _)).fr0 ((Fr.refl No _).drew)), hide ((FW.out.own1 (HFR.out _) OW.out.lt.2.2.1).drew)⟩
        case measure => simp [intOf]; omega
      · have hd : decide ((k : Int) < ((nb : Int) + 63) / 64) = false := decide_eq_false (by omega)
        have hy0 := hwb (by omega)
        subst hy0
        clear hwb hbw hy hwcb hin hjx
        rw [show ((0 : Nat) : Int) = 0 from rfl] at HJJ
        go_wp2_with (fail)
        refine HLn.out.mono ?_
        rintro en wx ⟨rfl, rfl⟩
        go_wp2_with (fail)
        go_region_held3 (fun W => W.cell? ⟨g, 0, none⟩ = some (.slice (some ⟨gw, 0, none⟩) m m) ∧ W.cell? ⟨ga, 0, none⟩ = some (.slice (some ⟨gwa, 0, none⟩) m m) ∧ W.cell? ⟨gwa, k, none⟩ = some (.int .u64 (x : Nat)) ∧ W.cell? ⟨gm, 0, none⟩ = some (.slice (some ⟨gwm, 0, none⟩) m m) ∧ W.cell? ⟨gwm, k, none⟩ = some (.int .u64 (z : Nat))) (first | exact HK0.out | exact HKv.out _ | assumption) (first | (go_at_call 49; refine (HJJ.out _).mono ?_; rintro en wx ⟨rfl, rfl⟩))
        go_wp2_with (fail)
        go_roundw
        case rel =>
          rw [HAND.out]
          exact ⟨k + 1, by omega, by go_num, hide ((HST.out _ rfl).fr0 ((Fr.refl No _).drew)), hide ((MW.out.keep OW.out HNE.out (HFR.out _)).fr0 ((Fr.refl No _).drew)), hide ((FW.out.own1 (HFR.out _) OW.out.lt.2.2.1).drew)⟩
        case measure => simp [intOf]; omega
    · obtain rfl : k = m := by omega
      have HB : Hid (BT wr w.heap.size g gw (joinL op a b)) := hide (by
        have h := OW.out
        rw [atK_top (by have := HWC.out; omega)] at h
        rw [HJL.out]
        exact h)
      go_wp2_with (fail)
      go_ret
      exact ⟨_, _, rfl, HB.out, FW.out⟩
set_option maxRecDepth 100000 in
set_option maxHeartbeats 800000 in
theorem withCopy_any (op : Bool → Bool → Bool) (jn : Nat → Nat → Nat) (hj : Joins op jn) (HJ0 : ∀ (W : World) (x y : Nat), x < 18446744073709551616 → y < 18446744073709551616 → Calls Tryd.prog 50 #[.int .u64 x, .int .u64 y] W (Ret (.int .u64 (jn x y : Nat)) W))
    (B1 B2 : Nat) (v1 v2 : Value) (a b : List Bool) (w : World) (h1 : BV w B1 v1 a) (h2 : BV w B2 v2 b) (ha : a.length ≤ 16384) (hb : b.length ≤ 16384) :
    Calls Tryd.prog 45 #[v1, v2, .func (.func 50) #[] #[]] w (GivesBT w (joinL op a b)) := by
  have HJ := hide HJ0
  have HBa := hide h1
  have HBb := hide h2
  obtain ⟨n, hn⟩ : ∃ n, a.length = n := ⟨_, rfl⟩
  have HL1 := hide (fun W (f : Fr No w W) => len_any B1 v1 a W (h1.fr0 f))
  have HL2 := hide (fun W (f : Fr No w W) => len_any B2 v2 b W (h2.fr0 f))
  rw [hn] at HL1 ha
  obtain ⟨nb, hnb⟩ : ∃ nb, b.length = nb := ⟨_, rfl⟩
  rw [hnb] at HL2 hb
  have HNB := hide hnb
  clear hnb
  have HNA := hide hn
  have HN := hide (fun W => new_any (n : Nat) W (by omega) (by omega))
  have HF := hide (fun W => full_any (n : Nat) W (by omega) (by omega))
  have hk : clampN (n : Nat) = n := by unfold clampN; rw [if_neg (by omega), if_neg (by omega), Int.toNat_natCast]
  rw [hk] at HN HF
  have HJL : Hid (joinL op a b = (List.range n).map fun j => op (hasN a j) (hasN b j)) := hide (by unfold joinL; rw [hn])
  have HW := hide (fun k => join_word hj a b n k)
  have HJX : Hid (∀ k, jn (wd a k) (wd b k) < 18446744073709551616) := hide (fun k => (hj _ _ (wd_lt _ _) (wd_lt _ _)).1)
  clear h1 h2 hn hk hj HJ0
  go_enter Tryd.func45, Tryd.ntmps45
  go_wp2_with (fail)
  refine (HL1.out w (Fr.refl _ _)).mono ?_
  rintro en wx ⟨rfl, rfl⟩
  go_wp2_with (fail)
  refine (HN.out w).mono ?_
  rintro en w1 ⟨g, gw, rfl, hbt, hfr⟩
  have O1 := hide hbt
  have F1 := hide hfr
  clear hbt hfr
  go_wp2_with (fail)
  refine (HL1.out w1 F1.out).mono ?_
  rintro en wx ⟨rfl, rfl⟩
  go_wp2_with (fail)
  refine (HF.out w1).mono ?_
  rintro en w2 ⟨gm, gwm, rfl, hbt, hfr⟩
  have M2 := hide hbt
  have F2 := hide (F1.out.tr hfr)
  have O2 := hide (O1.out.fr0 hfr)
  have hne : gwm ≠ gw := by
    have x1 := hbt.lt.2.2.1
    have x2 := O1.out.lt.2.2.2
    omega
  have HNE := hide hne
  have b0 := O2.out.cell0
  rw [List.length_replicate] at b0
  have hwc : wcount n = (n + 63) / 64 := rfl
  have HWC := hide hwc
  have hw256 : wcount n ≤ 256 := by omega
  generalize wcount n = m at b0 hw256 HWC
  clear hbt hfr hwc hne HN HF O1 F1
  go_wp2_with (fail)
  clear b0
  go_loopw [9, 10, 22] (fun u9 u10 i wr => ∃ k : Nat, k ≤ m ∧ i = .int .i64 k ∧ Hid (BT wr w.heap.size g gw (atK (fun j => op (hasN a j) (hasN b j)) n (64 * k))) ∧ Hid (BT wr w1.heap.size gm gwm (List.replicate n true)) ∧ Hid (Fr No w wr)) (fun _ _ i _ => m - (intOf i).toNat)
  case atStart => exact ⟨0, by omega, rfl, hide (by rw [Nat.mul_zero, atK_zero]; exact O2.out), M2, F2⟩
  case round =>
    clear O2 M2 F2
    obtain ⟨k, hk, rfl, OW, MW, FW⟩ := hrel
    by_cases hlt : k < m
    · have hlen := HL2.out wr FW.out
      have HLn := hide hlen
      clear hlen
      have o0 := OW.out.cell0
      have m0 := MW.out.cell0
      rw [atK_len] at o0
      rw [List.length_replicate] at m0
      have hq : k < wcount n := by have := HWC.out; unfold wcount; omega
      have ow := OW.out.word (i := k) (by rw [atK_len]; exact hq)
      have mw := MW.out.word (i := k) (by rw [List.length_replicate]; exact hq)
      have hfz := OW.out.frozen k
      obtain ⟨ga, gwa, rfl, hba, hga, hgwa⟩ : ∃ ga gwa, v1 = .pointer (some ⟨ga, 0, none⟩) ∧ BT wr B1 ga gwa a ∧ ga < w.heap.size ∧ gwa < w.heap.size := by
        rcases HBa.out with ⟨_, h⟩ | ⟨ga, gwa, h, hb⟩
        · have := HNA.out
          rw [h] at this
          simp at this
          subst this
          exact absurd hq (by simp [wcount])
        · exact ⟨ga, gwa, h, hb.fr0 FW.out, hb.lt.2.1, hb.lt.2.2.2⟩
      have a0 := hba.cell0
      have aw := hba.word (i := k) (by rw [HNA.out]; exact hq)
      rw [HNA.out] at a0
      rw [show wcount n = m from HWC.out.symm] at o0 m0 a0
      have hx := wd_lt a k
      have hy := wd_lt b k
      have hmz := wd_lt (List.replicate n true) k
      have HST := hide (fun v (hv : v = jn (wd a k) (wd b k) &&& wd (List.replicate n true) k) => OW.out.put (l' := atK (fun j => op (hasN a j) (hasN b j)) n (64 * (k + 1))) (q := k) (v := v) (by rw [atK_len]; exact hq) (by rw [atK_len, atK_len]) (fun i hi => wd_word hi) (by rw [hv]; exact HW.out k))
      have HFR : Hid (∀ v, Fr (Is gw) wr (wr.setCell ⟨gw, k, none⟩ v)) := hide (fun v => (Fr.refl (Is gw) wr).setCell (p := ⟨gw, k, none⟩) (fun _ => rfl) v)
      have hjx := HJX.out k
      have hwb : wcount nb ≤ k → wd b k = 0 := fun h => wd_big (by rw [HNB.out]; exact h)
      have hbw : k < wcount nb → ∃ gb gwb, v2 = .pointer (some ⟨gb, 0, none⟩) ∧ wr.cell? ⟨gb, 0, none⟩ = some (.slice (some ⟨gwb, 0, none⟩) (wcount nb) (wcount nb)) ∧ wr.cell? ⟨gwb, k, none⟩ = some (.int .u64 (wd b k : Nat)) := fun h => by
        rcases HBb.out with ⟨_, e⟩ | ⟨gb, gwb, e, hb⟩
        · have := HNB.out
          rw [e] at this
          simp at this
          subst this
          exact absurd h (by simp [wcount])
        · have hb2 := hb.fr0 FW.out
          refine ⟨gb, gwb, e, ?_, hb2.word (by rw [HNB.out]; exact h)⟩
          rw [← HNB.out]
          exact hb2.cell0
      generalize wd a k = x at aw hx HST hjx
      generalize wd b k = y at hwb hbw hy HST hjx
      generalize wd (List.replicate n true) k = z at mw hmz HST
      generalize wd (atK (fun j => op (hasN a j) (hasN b j)) n (64 * k)) k = old at ow
      have HAND := hide (u64_and_nat (jn x y) z hjx hmz)
      have HJJ := hide (fun W => HJ.out W x y hx hy)
      have hkc : (k : Int) < (m : Int) := by omega
      have hwcb : wcount nb = (nb + 63) / 64 := rfl
      have hlow := OW.out.lt.2.2.1
      have HK0 : Hid ((fun W : World => W.cell? ⟨g, 0, none⟩ = some (.slice (some ⟨gw, 0, none⟩) m m) ∧ W.cell? ⟨ga, 0, none⟩ = some (.slice (some ⟨gwa, 0, none⟩) m m) ∧ W.cell? ⟨gwa, k, none⟩ = some (.int .u64 (x : Nat)) ∧ W.cell? ⟨gm, 0, none⟩ = some (.slice (some ⟨gwm, 0, none⟩) m m) ∧ W.cell? ⟨gwm, k, none⟩ = some (.int .u64 (z : Nat))) wr.drew) := hide ⟨o0, a0, aw, m0, mw⟩
      have HKv : Hid (∀ v, (fun W : World => W.cell? ⟨g, 0, none⟩ = some (.slice (some ⟨gw, 0, none⟩) m m) ∧ W.cell? ⟨ga, 0, none⟩ = some (.slice (some ⟨gwa, 0, none⟩) m m) ∧ W.cell? ⟨gwa, k, none⟩ = some (.int .u64 (x : Nat)) ∧ W.cell? ⟨gm, 0, none⟩ = some (.slice (some ⟨gwm, 0, none⟩) m m) ∧ W.cell? ⟨gwm, k, none⟩ = some (.int .u64 (z : Nat))) (wr.setCell ⟨gw, k, none⟩ v).drew) := hide (fun v => by
        have f := HFR.out v
        refine ⟨f.cell (p := ⟨g, 0, none⟩) o0 ?_, f.cell (p := ⟨ga, 0, none⟩) a0 ?_, f.cell (p := ⟨gwa, k, none⟩) aw ?_, f.cell (p := ⟨gm, 0, none⟩) m0 ?_, f.cell (p := ⟨gwm, k, none⟩) mw ?_⟩
        · intro e
          exact OW.out.ne (by cases e; rfl)
        · intro e
          have e : ga = gw := by cases e; rfl
          omega
        · intro e
          have e : gwa = gw := by cases e; rfl
          omega
        · intro e
          have e : gm = gw := by cases e; rfl
          subst e
          exact OW.out.own.ne_blk rfl MW.out.blk (by decide)
        · intro e
          exact HNE.out (by cases e; rfl))
      clear hba hq hx hmz hga hgwa hlow
      by_cases hin : k < wcount nb
      · have hd : decide ((k : Int) < ((nb : Int) + 63) / 64) = true := decide_eq_true (by omega)
        obtain ⟨gb, gwb, rfl, c0, cw⟩ := hbw hin
        have hkb : (k : Int) < ((wcount nb : Nat) : Int) := by omega
        have hwb256 : wcount nb ≤ 256 := by omega
        generalize wcount nb = mb at c0 hkb hwb256 hin
        clear hwb hbw hy hwcb hin hjx
        go_wp2_with (fail)
        refine HLn.out.mono ?_
        rintro en wx ⟨rfl, rfl⟩
        go_wp2_with (fail)
        go_region_held3 (fun W => W.cell? ⟨g, 0, none⟩ = some (.slice (some ⟨gw, 0, none⟩) m m) ∧ W.cell? ⟨ga, 0, none⟩ = some (.slice (some ⟨gwa, 0, none⟩) m m) ∧ W.cell? ⟨gwa, k, none⟩ = some (.int .u64 (x : Nat)) ∧ W.cell? ⟨gm, 0, none⟩ = some (.slice (some ⟨gwm, 0, none⟩) m m) ∧ W.cell? ⟨gwm, k, none⟩ = some (.int .u64 (z : Nat))) (first | exact HK0.out | exact HKv.out _ | assumption) (first | (go_at_call 50; refine (HJJ.out _).mono ?_; rintro en wx ⟨rfl, rfl⟩))
        go_wp2_with (fail)
        go_roundw
        case rel =>
          rw [HAND.out]
          exact ⟨k + 1, by omega, by go_num, hide ((HST.out _ rfl).fr0 ((Fr.refl No _).drew)), hide ((MW.out.keep OW.out HNE.out (HFR.out _)).fr0 ((Fr.refl No _).drew)), hide ((FW.out.own1 (HFR.out _) OW.out.lt.2.2.1).drew)⟩
        case measure => simp [intOf]; omega
      · have hd : decide ((k : Int) < ((nb : Int) + 63) / 64) = false := decide_eq_false (by omega)
        have hy0 := hwb (by omega)
        subst hy0
        clear hwb hbw hy hwcb hin hjx
        rw [show ((0 : Nat) : Int) = 0 from rfl] at HJJ
        go_wp2_with (fail)
        refine HLn.out.mono ?_
        rintro en wx ⟨rfl, rfl⟩
        go_wp2_with (fail)
        go_region_held3 (fun W => W.cell? ⟨g, 0, none⟩ = some (.slice (some ⟨gw, 0, none⟩) m m) ∧ W.cell? ⟨ga, 0, none⟩ = some (.slice (some ⟨gwa, 0, none⟩) m m) ∧ W.cell? ⟨gwa, k, none⟩ = some (.int .u64 (x : Nat)) ∧ W.cell? ⟨gm, 0, none⟩ = some (.slice (some ⟨gwm, 0, none⟩) m m) ∧ W.cell? ⟨gwm, k, none⟩ = some (.int .u64 (z : Nat))) (first | exact HK0.out | exact HKv.out _ | assumption) (first | (go_at_call 50; refine (HJJ.out _).mono ?_; rintro en wx ⟨rfl, rfl⟩))
        go_wp2_with (fail)
        go_roundw
        case rel =>
          rw [HAND.out]
          exact ⟨k + 1, by omega, by go_num, hide ((HST.out _ rfl).fr0 ((Fr.refl No _).drew)), hide ((MW.out.keep OW.out HNE.out (HFR.out _)).fr0 ((Fr.refl No _).drew)), hide ((FW.out.own1 (HFR.out _) OW.out.lt.2.2.1).drew)⟩
        case measure => simp [intOf]; omega
    · obtain rfl : k = m := by omega
      have HB : Hid (BT wr w.heap.size g gw (joinL op a b)) := hide (by
        have h := OW.out
        rw [atK_top (by have := HWC.out; omega)] at h
        rw [HJL.out]
        exact h)
      go_wp2_with (fail)
      go_ret
      exact ⟨_, _, rfl, HB.out, FW.out⟩
end Go.Proofs.YtapfbjaopbcgjaaDoor
