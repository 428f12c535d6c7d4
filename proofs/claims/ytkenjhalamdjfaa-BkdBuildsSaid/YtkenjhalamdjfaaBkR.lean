/- The document's below and far, walked. -/
import Derived.Test.YtkenjhalamdjfaaBkW
import Derived.Test.YtkenjhalamdjfaaBkC
import Derived.Deep.RegionHeld3
import Derived.BigQuiet
namespace Go.Proofs.Ytkenjhalamdjfaa
set_option linter.unusedVariables false
set_option linter.unusedSimpArgs false
open Go.RowKit

set_option maxRecDepth 100000 in
set_option maxHeartbeats 4000000 in
theorem below_any (d n ca cb B : Nat) (da db : Int) (ra rb : List Int) (Aa Ab : Option Addr) (w : World) (hd : d < n) (hra : ra.length = n) (hrb : rb.length = n) (h1 : n ≤ ca) (h2 : ca ≤ maxLen) (h3 : n ≤ cb) (h4 : cb ≤ maxLen)
    (hA : Rd w B Aa (iz .i64 ra)) (hB : Rd w B Ab (iz .i64 rb)) :
    Calls Try.prog 38 #[.agg #[.int .i64 da, .slice Aa n ca], .agg #[.int .i64 db, .slice Ab n cb], .int .i64 (d : Nat)] w (fun en w' => en = .returned (.bool (belP d (da, ra) (db, rb))) ∧ Fr No w w') := by
  have HE := hide (belP_eq (d := d) (a := (da, ra)) (b := (db, rb)) (by dsimp only; rw [hra, hrb]))
  obtain ⟨r, hr⟩ : ∃ x, x = belP d (da, ra) (db, rb) := ⟨_, rfl⟩
  rw [← hr] at HE ⊢
  dsimp only at HE
  obtain ⟨W2, hW2⟩ : ∃ x, x = (w.alloc (.cells #[.int .i64 da, .slice Aa n ca] 38)).alloc (.cells #[.int .i64 db, .slice Ab n cb] 38) := ⟨_, rfl⟩
  have f2 : Fr No w W2 := by rw [hW2]; exact ((Fr.refl No w).alloc _).alloc _
  obtain ⟨ada, rfl, _, xa⟩ := (hA.fr0 f2).intAt (j := d) (by rw [hra]; exact hd)
  obtain ⟨adb, rfl, _, xb⟩ := (hB.fr0 f2).intAt (j := d) (by rw [hrb]; exact hd)
  obtain ⟨g0, hg0⟩ : ∃ x, x = w.heap.size := ⟨_, rfl⟩
  obtain ⟨g1, hg1⟩ : ∃ x, x = w.heap.size + 1 := ⟨_, rfl⟩
  have ba : W2.heap[g0]? = some (.cells #[.int .i64 da, .slice (some ada) n ca] 38 (0, 0)) := by
    rw [hW2, hg0, heap_alloc_old _ _ (by simp)]; exact heap_alloc_new w _
  have bb : W2.heap[g1]? = some (.cells #[.int .i64 db, .slice (some adb) n cb] 38 (0, 0)) := by
    have := heap_alloc_new (w.alloc (.cells #[.int .i64 da, .slice (some ada) n ca] 38)) (.cells #[.int .i64 db, .slice (some adb) n cb] 38)
    rw [hW2, hg1]; simpa using this
  have ka0 := cell_of_row _ _ 0 _ _ _ ba
  have ka1 := cell_of_row _ _ 1 _ _ _ ba
  have kb0 := cell_of_row _ _ 0 _ _ _ bb
  have kb1 := cell_of_row _ _ 1 _ _ _ bb
  have hdn : (d : Int) < (n : Int) := by omega
  have hd0 : (0 : Int) ≤ (d : Int) := by omega
  have HW2 := hide hW2
  have HF2 := hide f2
  have HA2 := hide (hA.fr0 f2)
  have HB2 := hide (hB.fr0 f2)
  have HRa := hide hra
  have HRb := hide hrb
  have HG0 := hide hg0
  have HG1 := hide hg1
  generalize ra.getD d 0 = ya at xa HE
  generalize rb.getD d 0 = yb at xb HE
  unfold maxLen at h2 h4
  clear ba bb hA hB f2 hra hrb hr hW2 hg0 hg1
  go_enter Try.func38, Try.ntmps38
  go_wp2_with (fail)
  have hz1 : (w.alloc (.cells #[.int .i64 da, .slice (some ada) n ca] 38)).heap.size = g1 := by rw [HG1.out]; simp
  rw [← HW2.out]
  try rw [hz1]
  try rw [← HG1.out]
  rw [← HG0.out]
  clear hz1
  by_cases hy : ya = yb
  · subst hy
    have e1 : (ya != ya) = false := by simp
    have HE' : Hid (r = if cmpL ra rb ≠ 0 then decide (cmpL ra rb < 0) else decide (da < db)) := hide (by rw [HE.out, if_neg (fun h => h rfl)])
    clear HE
    go_quiet (fail)
    have HF3 := hide (HF2.out.drewN nq)
    obtain ⟨W3, hW3⟩ : ∃ x, x = W2.drewN nq := ⟨_, rfl⟩
    have f3 : Fr No W2 W3 := by rw [hW3]; exact (Fr.refl No W2).drewN nq
    have q0 := hide (f3.cell ka0 (fun h => h))
    have q1 := hide (f3.cell ka1 (fun h => h))
    have q2 := hide (f3.cell kb0 (fun h => h))
    have q3 := hide (f3.cell kb1 (fun h => h))
    have HA3 := hide (HA2.out.fr0 f3)
    have HB3 := hide (HB2.out.fr0 f3)
    rw [← hW3]
    rw [← hW3] at HF3
    clear hW3 f3 ka0 ka1 kb0 kb1 xa xb
    go_wp2_with (fail)
    go_loopw [7] (fun i wr => ∃ k : Nat, k ≤ n ∧ i = .int .i64 (k : Nat) ∧ Hid (cmpL ra rb = cmpL (ra.drop k) (rb.drop k)) ∧ Hid (∃ q, wr = W3.drewN q)) (fun i _ => n - (intOf i).toNat)
    case atStart => exact ⟨0, by omega, by go_num, hide rfl, hide ⟨0, rfl⟩⟩
    case round =>
      obtain ⟨wo, rfl⟩ : ∃ wo : World, wo = wr := ⟨_, rfl⟩
      obtain ⟨k, hk, rfl, HC, HQ⟩ := hrel
      have hfo : Fr No W3 wo := by obtain ⟨q, rfl⟩ := HQ.out; exact (Fr.refl No W3).drewN q
      have ka0 := hfo.cell q0.out (fun h => h)
      have ka1 := hfo.cell q1.out (fun h => h)
      have kb0 := hfo.cell q2.out (fun h => h)
      have kb1 := hfo.cell q3.out (fun h => h)
      by_cases hlt : k < n
      · have k1 : k < ra.length := by rw [HRa.out]; exact hlt
        have k2 : k < rb.length := by rw [HRb.out]; exact hlt
        obtain ⟨ad1, e1, _, xa⟩ := (HA3.out.fr0 hfo).intAt k1
        cases e1
        obtain ⟨ad2, e2, _, xb⟩ := (HB3.out.fr0 hfo).intAt k2
        cases e2
        have hdr := cmpL_drop k1 k2
        generalize ra.getD k 0 = x at xa hdr
        generalize rb.getD k 0 = y at xb hdr
        have hkn : (k : Int) < (n : Int) := by omega
        have hk0 : (0 : Int) ≤ (k : Int) := by omega
        have HFo := hide (HF3.out.tr hfo)
        have HDr := hide hdr
        clear k1 k2 hdr hfo
        by_cases hxy : x = y
        · subst hxy
          have e1 : (x != x) = false := by simp
          have HC' : Hid (cmpL ra rb = cmpL (ra.drop (k + 1)) (rb.drop (k + 1))) := hide (by rw [HC.out, HDr.out, if_pos (cmpI_zero.2 rfl)])
          go_wp2_with (fail)
          go_quiet (fail)
          go_wp2_with (fail)
          go_roundw
          case rel => exact ⟨k + 1, by omega, by go_num, HC', hide (by obtain ⟨q, hq⟩ := HQ.out; exact ⟨_, by rw [hq]; exact World.drewN_drewN _ _ _⟩)⟩
          case measure => simp [intOf]; omega
        · have e1 : (x != y) = true := by simpa using hxy
          have HC' : Hid (r = decide (x < y)) := hide (by
            have h1 : cmpL ra rb = cmpI x y := by rw [HC.out, HDr.out, if_neg (fun h => hxy (cmpI_zero.1 h))]
            rw [HE'.out, h1, if_pos (fun h => hxy (cmpI_zero.1 h))]
            exact decide_eq_decide.2 cmpI_neg)
          clear hxy
          go_wp2_with (fail)
          go_quiet (fail)
          go_wp2_with (fail)
          go_quiet (fail)
          go_wp2_with (fail)
          go_ret
          exact ⟨by rw [HC'.out]; rfl, by first | exact HFo.out.drewN _ | exact (HFo.out.drewN _).drewN _⟩
      · obtain rfl : k = n := by omega
        have HC' : Hid (r = decide (da < db)) := hide (by rw [HE'.out, if_neg (fun h => h (by rw [HC.out, ← HRa.out]; exact cmpL_done (by rw [HRa.out, HRb.out])))])
        have HFo := hide (HF3.out.tr hfo)
        clear hfo hlt
        go_wp2_with (fail)
        go_ret
        exact ⟨by rw [HC'.out]; rfl, HFo.out⟩
  · have e1 : (ya != yb) = true := by simpa using hy
    have HE' : Hid (r = decide (ya < yb)) := hide (by rw [HE.out, if_pos hy])
    clear HE hy
    go_quiet (fail)
    go_wp2_with (fail)
    go_quiet (fail)
    go_wp2_with (fail)
    go_ret
    exact ⟨by rw [HE'.out]; rfl, by first | exact HF2.out.drewN _ | exact (HF2.out.drewN _).drewN _⟩
theorem lowP_one {d : Nat} {p : Pt} {r : List Pt} : lowP d ((p :: r).take 1) (p.2.getD d 0) = p.2.getD d 0 := by simp [lowP]
theorem highP_one {d : Nat} {p : Pt} {r : List Pt} : highP d ((p :: r).take 1) (p.2.getD d 0) = p.2.getD d 0 := by simp [highP]
set_option maxRecDepth 100000 in
set_option maxHeartbeats 2000000 in
theorem far_any (A : Option Addr) (n c B d dims : Nat) (l : List Po) (w : World) (hl : l.length = n) (hn1 : 1 ≤ n) (hn : n ≤ c) (hc : c ≤ maxLen) (hd : ∀ p ∈ l, p.2.length = dims ∧ InI p.2) (hdd : d < dims) (hr : RdPo w B A l) :
    Calls Try.prog 25 #[.slice A n c, .int .i64 (d : Nat)] w (Ret (.int .u64 (farP d l : Nat)) w) := by
  have HL := hide hl
  have HR := hide hr
  have HD := hide hd
  have hl0 : 0 < l.length := by rw [hl]; omega
  obtain ⟨ad, A0, c0, rfl, _, k0, k1, e1, e2, hrk⟩ := hr.at hl0
  have hp0 := hd _ (getP_mem hl0)
  have hfar : farP d l = (highP d l ((l.getD 0 noPt).2.getD d 0) - lowP d l ((l.getD 0 noPt).2.getD d 0)).toNat := rfl
  have e00 : l.getD 0 noPt = l.getD 0 noPo := rfl
  rw [e00] at hfar
  have hs : lowP d (l.take 1) ((l.getD 0 noPo).2.getD d 0) = (l.getD 0 noPo).2.getD d 0 ∧ highP d (l.take 1) ((l.getD 0 noPo).2.getD d 0) = (l.getD 0 noPo).2.getD d 0 := by
    match l, hl0 with
    | p :: r, _ => exact ⟨lowP_one, highP_one⟩
  obtain ⟨p0, hp0e⟩ : ∃ x, x = l.getD 0 noPo := ⟨_, rfl⟩
  rw [← hp0e] at k0 k1 e1 hrk hp0 hfar hs
  rw [hp0.1] at k1 e1
  obtain ⟨ad0, rfl, _, hx0⟩ := hrk.intAt (j := d) (by rw [hp0.1]; exact hdd)
  have hx0I := hp0.2 (p0.2.getD d 0) (by rw [List.getD, List.getElem?_eq_getElem (by rw [hp0.1]; exact hdd)]; exact List.getElem_mem _)
  obtain ⟨x0, hx0e⟩ : ∃ x, x = p0.2.getD d 0 := ⟨_, rfl⟩
  rw [← hx0e] at hx0 hx0I hfar hs
  rw [Nat.zero_mul, Addr.add_zero'] at k0 k1
  have HFar := hide hfar
  have HSt := hide hs
  unfold maxLen at hc e2
  clear hl hr hd hl0 hp0 hfar e00 hp0e hrk hx0e hs
  go_enter Try.func25, Try.ntmps25
  go_wp2
  go_loopw [5, 6, 7, 8] (fun lo hi i _ wr => ∃ (k : Nat) (a b : Int), 1 ≤ k ∧ k ≤ n ∧ i = .int .i64 (k : Nat) ∧ lo = .int .i64 a ∧ hi = .int .i64 b ∧ Hid (a = lowP d (l.take k) x0) ∧ Hid (b = highP d (l.take k) x0) ∧ wr = w) (fun _ _ i _ _ => n - (intOf i).toNat)
  case atStart => exact ⟨1, x0, x0, by omega, by omega, by go_num, rfl, rfl, hide HSt.out.1.symm, hide HSt.out.2.symm, rfl⟩
  case round =>
    obtain ⟨k, a, b, hk1, hk, rfl, rfl, rfl, HLo, HHi, rfl⟩ := hrel
    clear k0 k1 hx0
    by_cases hlk : k < n
    · have hk1' : k < l.length := by rw [HL.out]; exact hlk
      obtain ⟨ad', A1, c1, e, _, k0, k1, g1, g2, hrk⟩ := HR.out.at hk1'
      cases e
      have hpk := HD.out _ (getP_mem hk1')
      have htk := take_snocP hk1'
      obtain ⟨pk, hpke⟩ : ∃ x, x = l.getD k noPo := ⟨_, rfl⟩
      rw [← hpke] at k0 k1 g1 hrk hpk htk
      rw [hpk.1] at k1 g1
      obtain ⟨ad1, rfl, _, hx1⟩ := hrk.intAt (j := d) (by rw [hpk.1]; exact hdd)
      have hlo : lowP d (l.take (k + 1)) x0 = (if pk.2.getD d 0 < a then pk.2.getD d 0 else a) := by rw [htk, lowP_snoc, ← HLo.out]
      have hhi : highP d (l.take (k + 1)) x0 = (if b < pk.2.getD d 0 then pk.2.getD d 0 else b) := by rw [htk, highP_snoc, ← HHi.out]
      obtain ⟨x1, hx1e⟩ : ∃ x, x = pk.2.getD d 0 := ⟨_, rfl⟩
      rw [← hx1e] at hx1 hlo hhi
      have HLo' := hide hlo
      have HHi' := hide hhi
      unfold maxLen at g2
      clear hk1' hpk htk hpke hrk hlo hhi hx1e k0
      by_cases h1 : x1 < a
      · have d1 : decide (x1 < a) = true := decide_eq_true h1
        by_cases h2 : b < x1
        · have d2 : decide (b < x1) = true := decide_eq_true h2
          go_wp2_with (fail)
          go_roundw
          case rel => exact ⟨k + 1, x1, x1, by omega, by omega, by go_num, rfl, rfl, hide (by rw [HLo'.out, if_pos h1]), hide (by rw [HHi'.out, if_pos h2]), trivial⟩
          case measure => simp [intOf]; omega
        · have d2 : decide (b < x1) = false := decide_eq_false h2
          go_wp2_with (fail)
          go_roundw
          case rel => exact ⟨k + 1, x1, b, by omega, by omega, by go_num, rfl, rfl, hide (by rw [HLo'.out, if_pos h1]), hide (by rw [HHi'.out, if_neg h2]), trivial⟩
          case measure => simp [intOf]; omega
      · have d1 : decide (x1 < a) = false := decide_eq_false h1
        by_cases h2 : b < x1
        · have d2 : decide (b < x1) = true := decide_eq_true h2
          go_wp2_with (fail)
          go_roundw
          case rel => exact ⟨k + 1, a, x1, by omega, by omega, by go_num, rfl, rfl, hide (by rw [HLo'.out, if_neg h1]), hide (by rw [HHi'.out, if_pos h2]), trivial⟩
          case measure => simp [intOf]; omega
        · have d2 : decide (b < x1) = false := decide_eq_false h2
          go_wp2_with (fail)
          go_roundw
          case rel => exact ⟨k + 1, a, b, by omega, by omega, by go_num, rfl, rfl, hide (by rw [HLo'.out, if_neg h1]), hide (by rw [HHi'.out, if_neg h2]), trivial⟩
          case measure => simp [intOf]; omega
    · obtain rfl : k = n := by omega
      have hall : l.take k = l := List.take_of_length_le (by rw [HL.out]; exact Nat.le_refl _)
      rw [hall] at HLo HHi
      have hab : a ≤ b := by
        have h1 := lowP_le d l x0
        have h2 := highP_ge d l x0
        rw [HLo.out, HHi.out]
        omega
      have ha : -9223372036854775808 ≤ a := by rw [HLo.out]; exact lowP_in (fun p hp => (HD.out p hp).2) hx0I.1
      have hb : b ≤ 9223372036854775807 := by rw [HHi.out]; exact highP_in (fun p hp => (HD.out p hp).2) hx0I.2
      have hw := far_wrap ha hb hab
      have hff : farP d l = (b - a).toNat := by rw [HFar.out, ← HLo.out, ← HHi.out]
      obtain ⟨f2, hf2⟩ : ∃ x, x = (b - a).toNat := ⟨_, rfl⟩
      rw [← hf2] at hw hff
      have HFf2 := hide hff
      clear hall hf2 hff hlk hab ha hb
      go_wp2
      go_ret
      exact ⟨by rw [HFf2.out]; rfl, rfl⟩
end Go.Proofs.Ytkenjhalamdjfaa
