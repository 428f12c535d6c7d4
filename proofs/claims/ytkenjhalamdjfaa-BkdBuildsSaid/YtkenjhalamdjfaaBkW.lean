/- bkd.widest, walked. -/
import Derived.Test.YtkenjhalamdjfaaBkM
import Derived.Test.YtkenjhalamdjfaaBkP
import Derived.BigQuiet
namespace Go.Proofs.Ytkenjhalamdjfaa
set_option linter.unusedVariables false
set_option linter.unusedSimpArgs false
open Go.RowKit

theorem far_wrap {lo hi : Int} (h1 : -9223372036854775808 ≤ lo) (h2 : hi ≤ 9223372036854775807) (h3 : lo ≤ hi) : IntKind.u64.wrap (IntKind.u64.wrap hi - IntKind.u64.wrap lo) = (((hi - lo).toNat : Nat) : Int) := by
  simp only [IntKind.wrap, IntKind.bits, IntKind.signed]
  simp
  omega
theorem lowP_in {d : Nat} : ∀ {l : List Pt} {m : Int}, (∀ p ∈ l, InI p.2) → -9223372036854775808 ≤ m → -9223372036854775808 ≤ lowP d l m
  | [], m, _, h => h
  | p :: r, m, hp, h => by
    rw [lowP]
    refine lowP_in (fun q hq => hp q (List.mem_cons_of_mem _ hq)) ?_
    split
    · by_cases hd : d < p.2.length
      · have := hp p List.mem_cons_self (p.2.getD d 0) (by rw [List.getD, List.getElem?_eq_getElem hd]; exact List.getElem_mem hd)
        omega
      · rw [List.getD, List.getElem?_eq_none (by omega)]; simp
    · exact h
theorem highP_in {d : Nat} : ∀ {l : List Pt} {m : Int}, (∀ p ∈ l, InI p.2) → m ≤ 9223372036854775807 → highP d l m ≤ 9223372036854775807
  | [], m, _, h => h
  | p :: r, m, hp, h => by
    rw [highP]
    refine highP_in (fun q hq => hp q (List.mem_cons_of_mem _ hq)) ?_
    split
    · by_cases hd : d < p.2.length
      · have := hp p List.mem_cons_self (p.2.getD d 0) (by rw [List.getD, List.getElem?_eq_getElem hd]; exact List.getElem_mem hd)
        omega
      · rw [List.getD, List.getElem?_eq_none (by omega)]; simp
    · exact h
theorem wid_gt {l : List Pt} {d ff : Nat} (h : d = 0 ∧ ff = 0 ∨ ff = farP (widF l d) l) (hf : ff < farP d l) : widF l (d + 1) = d := by
  rw [widF]
  rcases h with ⟨rfl, _⟩ | h
  · rw [if_neg (by simp [widF])]; rfl
  · rw [if_pos (by omega)]
theorem wid_le {l : List Pt} {d ff : Nat} (h : d = 0 ∧ ff = 0 ∨ ff = farP (widF l d) l) (hf : ¬ ff < farP d l) : widF l (d + 1) = widF l d ∧ ff = farP (widF l d) l := by
  rw [widF]
  rcases h with ⟨rfl, rfl⟩ | h
  · rw [if_neg (by simp [widF])]
    exact ⟨rfl, by simp only [widF]; omega⟩
  · rw [if_neg (by omega)]
    exact ⟨rfl, h⟩
set_option maxRecDepth 100000 in
set_option maxHeartbeats 2000000 in
theorem widest_any (A : Option Addr) (n c B dims : Nat) (l : List Po) (w : World) (hl : l.length = n) (hn1 : 1 ≤ n) (hn : n ≤ c) (hc : c ≤ maxLen) (hB : B ≤ w.heap.size) (hd : ∀ p ∈ l, p.2.length = dims ∧ InI p.2) (hdm : dims ≤ 4) (hr : RdPo w B A l) :
    Calls Try.prog 20 #[.int .i64 (dims : Nat), .slice A n c] w (fun en w' => en = .returned (.int .i64 ((widF l dims : Nat) : Int)) ∧ Fr No w w') := by
  have HL := hide hl
  have HR := hide hr
  have HD := hide hd
  unfold maxLen at hc
  clear hl hr hd
  go_enter Try.func20, Try.ntmps20
  go_wp2
  go_loopw [5, 6, 7, 8, 9, 11, 12, 14] (fun b f _ _ _ _ _ i wr => ∃ (k bb ff : Nat), k ≤ dims ∧ i = .int .i64 (k : Nat) ∧ b = .int .i64 (bb : Nat) ∧ f = .int .u64 (ff : Nat) ∧ Hid (bb = widF l k) ∧ Hid (k = 0 ∧ ff = 0 ∨ ff = farP bb l) ∧ Hid (Fr No w wr)) (fun _ _ _ _ _ _ _ i _ => dims - (intOf i).toNat)
  case atStart => exact ⟨0, 0, 0, by omega, by go_num, by go_num, by go_num, hide rfl, hide (.inl ⟨rfl, rfl⟩), hide (Fr.refl _ _)⟩
  case round =>
    obtain ⟨wo, rfl⟩ : ∃ wo : World, wo = wr := ⟨_, rfl⟩
    obtain ⟨d, bb, ff, hdk, rfl, rfl, rfl, HBb, HFf, HF⟩ := hrel
    by_cases hlt : d < dims
    · have hl0 : 0 < l.length := by rw [HL.out]; omega
      obtain ⟨ad, A0, c0, rfl, _, k0, k1, e1, e2, hrk⟩ := (HR.out.fr0 HF.out).at hl0
      have hp0 := HD.out _ (getP_mem hl0)
      have hfar : farP d l = (highP d l ((l.getD 0 noPt).2.getD d 0) - lowP d l ((l.getD 0 noPt).2.getD d 0)).toNat := rfl
      have e00 : l.getD 0 noPt = l.getD 0 noPo := rfl
      rw [e00] at hfar
      obtain ⟨p0, hp0e⟩ : ∃ x, x = l.getD 0 noPo := ⟨_, rfl⟩
      rw [← hp0e] at k0 k1 e1 hrk hp0 hfar
      rw [hp0.1] at k1 e1
      obtain ⟨ad0, rfl, _, hx0⟩ := hrk.intAt (j := d) (by rw [hp0.1]; exact hlt)
      have hx0I := hp0.2 (p0.2.getD d 0) (by rw [List.getD, List.getElem?_eq_getElem (by rw [hp0.1]; exact hlt)]; exact List.getElem_mem _)
      obtain ⟨x0, hx0e⟩ : ∃ x, x = p0.2.getD d 0 := ⟨_, rfl⟩
      rw [← hx0e] at hx0 hx0I hfar
      rw [Nat.zero_mul, Addr.add_zero'] at k0 k1
      have HFar := hide hfar
      unfold maxLen at e2
      clear hl0 hp0 hfar e00 hp0e hrk hx0e
      go_wp2_with (fail)
      go_quiet (fail)
      have HF1 := hide (HF.out.drewN nq)
      obtain ⟨w1, hw1⟩ : ∃ x, x = wo.drewN nq := ⟨_, rfl⟩
      rw [← hw1] at HF1 ⊢
      clear hw1 k0 k1 hx0
      go_wp2_with (fail)
      go_loopw [8, 9, 11, 33] (fun lo hi _ i wr => ∃ (k : Nat) (a b : Int), k ≤ n ∧ i = .int .i64 (k : Nat) ∧ lo = .int .i64 a ∧ hi = .int .i64 b ∧ Hid (a = lowP d (l.take k) x0) ∧ Hid (b = highP d (l.take k) x0) ∧ Hid (Fr No w wr)) (fun _ _ _ i _ => n - (intOf i).toNat)
      case atStart => exact ⟨0, x0, x0, by omega, by go_num, rfl, rfl, hide (by rw [List.take_zero]; rfl), hide (by rw [List.take_zero]; rfl), HF1⟩
      case round =>
        obtain ⟨wx, rfl⟩ : ∃ wo : World, wo = wr := ⟨_, rfl⟩
        obtain ⟨k, a, b, hk, rfl, rfl, rfl, HLo, HHi, HFk⟩ := hrel
        by_cases hlk : k < n
        · have hk1 : k < l.length := by rw [HL.out]; exact hlk
          obtain ⟨ad', A1, c1, e, _, k0, k1, g1, g2, hrk⟩ := (HR.out.fr0 HFk.out).at hk1
          cases e
          have hpk := HD.out _ (getP_mem hk1)
          have htk := take_snocP hk1
          obtain ⟨pk, hpke⟩ : ∃ x, x = l.getD k noPo := ⟨_, rfl⟩
          rw [← hpke] at k0 k1 g1 hrk hpk htk
          rw [hpk.1] at k1 g1
          obtain ⟨ad1, rfl, _, hx1⟩ := hrk.intAt (j := d) (by rw [hpk.1]; exact hlt)
          obtain ⟨dk, hdk⟩ : ∃ x, x = pk.1 := ⟨_, rfl⟩
          rw [← hdk] at k0
          have hlo : lowP d (l.take (k + 1)) x0 = (if pk.2.getD d 0 < a then pk.2.getD d 0 else a) := by rw [htk, lowP_snoc, ← HLo.out]
          have hhi : highP d (l.take (k + 1)) x0 = (if b < pk.2.getD d 0 then pk.2.getD d 0 else b) := by rw [htk, highP_snoc, ← HHi.out]
          obtain ⟨x1, hx1e⟩ : ∃ x, x = pk.2.getD d 0 := ⟨_, rfl⟩
          rw [← hx1e] at hx1 hlo hhi
          have HLo' := hide hlo
          have HHi' := hide hhi
          unfold maxLen at g2
          clear hk1 hpk htk hpke hrk hdk hlo hhi hx1e
          go_wp2_with (fail)
          obtain ⟨w2, hw2⟩ : ∃ x, x = wx.alloc (.cells #[.int .i64 dk, .slice (some ad1) dims c1] 37) := ⟨_, rfl⟩
          obtain ⟨g, hg⟩ : ∃ x, x = wx.heap.size := ⟨_, rfl⟩
          have hb2 : w2.heap[g]? = some (.cells #[.int .i64 dk, .slice (some ad1) dims c1] 37 (0, 0)) := by rw [hw2, hg]; exact heap_alloc_new wx _
          have f2 : Fr No wx w2 := by rw [hw2]; exact (Fr.refl No wx).alloc _
          have q1 := cell_of_row _ _ 1 _ _ _ hb2
          have q2 := f2.cell hx1 (fun h => h)
          have HF2 := hide (HFk.out.tr f2)
          rw [← hw2, ← hg]
          clear hw2 hg hb2 f2 k0 k1 hx1
          go_quiet (fail)
          have HF3 := hide (HF2.out.drewN nq)
          obtain ⟨w3, hw3⟩ : ∃ x, x = w2.drewN nq := ⟨_, rfl⟩
          rw [← hw3] at HF3 ⊢
          clear hw3 q1 q2
          go_wp2_with (fail)
          go_roundw
          case rel => exact ⟨k + 1, _, _, by omega, by go_num, rfl, rfl, hide HLo'.out.symm, hide HHi'.out.symm, HF3⟩
          case measure => simp [intOf]; omega
        · obtain rfl : k = n := by omega
          have hall : l.take k = l := List.take_of_length_le (by rw [HL.out]; exact Nat.le_refl _)
          rw [hall] at HLo HHi
          have hab : a ≤ b := by
            have h1 := lowP_le d l x0
            have h2 := highP_ge d l x0
            rw [HLo.out, HHi.out]
            omega
          have ha : -9223372036854775808 ≤ a := by rw [HLo.out]; exact lowP_in (fun p hp => (HD.out p hp).2) hx0I.1
          have hb : b ≤ 9223372036854775807 := by rw [HHi.out]; exact highP_in (fun p hp => (HD.out p hp).2) hx0I.2
          have hw := far_wrap ha hb hab
          have hff : farP d l = (b - a).toNat := by rw [HFar.out, ← HLo.out, ← HHi.out]
          obtain ⟨f2, hf2⟩ : ∃ x, x = (b - a).toNat := ⟨_, rfl⟩
          rw [← hf2] at hw hff
          have HFf2 := hide hff
          have hfb : f2 < 18446744073709551616 := by omega
          clear hall hf2 hff hlk
          by_cases hgt : ff < f2
          · have d1 : decide (ff < f2) = true := decide_eq_true hgt
            have d2 : decide ((ff : Int) < (f2 : Int)) = true := decide_eq_true (by omega)
            have hwd : widF l (d + 1) = d := wid_gt (by rw [← HBb.out]; exact HFf.out) (by rw [HFf2.out]; exact hgt)
            go_wp2_with (fail)
            refine ⟨⟨d + 1, d, f2, by omega, by go_num, rfl, rfl, hide hwd.symm, hide (.inr HFf2.out.symm), HFk⟩, ?_⟩
            simp [intOf]; omega
          · have d1 : decide (ff < f2) = false := decide_eq_false hgt
            have d2 : decide ((ff : Int) < (f2 : Int)) = false := decide_eq_false (by omega)
            have hwd := wid_le (l := l) (d := d) (by rw [← HBb.out]; exact HFf.out) (by rw [HFf2.out]; exact hgt)
            rw [← HBb.out] at hwd
            go_wp2_with (fail)
            refine ⟨⟨d + 1, bb, ff, by omega, by go_num, rfl, rfl, hide hwd.1.symm, hide (.inr hwd.2), HFk⟩, ?_⟩
            simp [intOf]; omega
    · obtain rfl : d = dims := by omega
      go_wp2
      go_ret
      exact ⟨by rw [← HBb.out]; rfl, HF.out⟩
end Go.Proofs.Ytkenjhalamdjfaa
