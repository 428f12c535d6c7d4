/- Several texts in one: RefUint, RefTx, RBuW. -/
import Derived.Test.YtcdhbdhhknlbaaaK9
import Derived.Deep.DeepCutAuto
namespace Go.Proofs.Ytcdhbdhhknlbaaa
set_option linter.unusedVariables false
set_option linter.unusedSimpArgs false
open Go.RowKit

set_option maxRecDepth 100000 in
set_option maxHeartbeats 800000 in
theorem refUint_any (u : Nat) (w : World) (hu : u < 18446744073709551616) :
    Calls Try.prog 36 #[.int .u64 u] w (GivesB w (enc u)) := by
  have HM := hide (fun i => @enc_more u i)
  have HA := hide (fun i => @enc_at u i hu)
  have hl := enc_len u
  obtain ⟨i0, hi, hz, hsz, hby⟩ := info_parts Try.info5
  obtain ⟨L, HL⟩ : ∃ L, Hid ((enc u).length = L) := ⟨_, hide rfl⟩
  rw [HL.out] at hl HM HA
  obtain ⟨hl1, hl2⟩ := hl
  generalize enc u = E at HL HM HA
  go_enter Try.func36, Try.ntmps36
  go_wp2
  go_loop [3] (fun i => ∃ k : Nat, 1 ≤ k ∧ k ≤ L ∧ i = .int .i64 k) (fun i => 10 - (intOf i).toNat)
  case atStart => exact ⟨1, by omega, hl1, rfl⟩
  case round =>
    obtain ⟨k, hk1, hkL, rfl⟩ := hrel
    have hm := HM.out k hk1 hkL
    have hp : (0 : Int) < 2 ^ (7 * k) := Int.pow_pos (by omega)
    by_cases hlt : k < L
    · have h10 := (hm.1 hlt).1
      have hgt := (hm.1 hlt).2
      clear hm
      have hg2 : (0 : Int) < (u : Int) / 2 ^ (7 * k) := by
        have : ((u / 2 ^ (7 * k) : Nat) : Int) = (u : Int) / 2 ^ (7 * k) := by simp
        omega
      clear hgt
      go_wp2
      go_round
      case rel => exact ⟨k + 1, by omega, by omega, by go_num⟩
      case measure => simp [intOf]; omega
    · obtain rfl : k = L := by omega
      have hstop : (((k : Int) < 10 ∧ decide ((0 : Int) < (u : Int) / 2 ^ (7 * k)) = false) ∨ ¬ (k : Int) < 10) := by
        by_cases h10 : k < 10
        · refine .inl ⟨by omega, ?_⟩
          have : ¬ 0 < u / 2 ^ (7 * k) := fun h => hlt (hm.2 ⟨h10, h⟩)
          have e : ((u / 2 ^ (7 * k) : Nat) : Int) = (u : Int) / 2 ^ (7 * k) := by simp
          simp only [decide_eq_false_iff_not]
          omega
        · exact .inr (by omega)
      clear hm hlt
      rcases hstop with ⟨h10, hz0⟩ | h10
      all_goals
        go_wp2
        go_loopw [4, 5] (fun v i wr => ∃ j : Nat, j ≤ k ∧ i = .int .i64 j ∧ Hid (Own wr w.heap.size 5 1 v j (by8 (E.take j))) ∧ Hid (Fr No w wr)) (fun _ i _ => k - (intOf i).toNat)
        case atStart => exact ⟨0, by omega, rfl, hide (Own.nil _ _ _ _), hide (Fr.refl _ _)⟩
        case round =>
          obtain ⟨j, hj, rfl, HOw, HFr⟩ := hrel
          have hgw := HFr.out.size
          by_cases hlt : j < k
          · have hat := HA.out j hlt
            have hsn := take_snoc8 (l := E) (k := j) (by rw [HL.out]; exact hlt)
            have HSN := hide hsn
            clear hsn
            generalize E.getD j 0 = b at hat HSN
            by_cases hmore : j + 1 < k
            · rw [if_pos hmore] at hat
              have hb : (u : Int) / 2 ^ (7 * j) % 128 + 128 = (b.toNat : Int) := by rw [hat]; simp
              clear hat
              have HS := hide (Src.one (P := Try.prog) wr (e := 5) Try.underlying24 (.int .u8 b.toNat) rfl)
              have HOw' := hide (HOw.out.fr0 ((Fr.refl No wr).alloc (.cells #[.int .u8 b.toNat] 5)))
              have b1 : (j + 1) * 1 ≤ 140737488355328 := by omega
              have b2 : j + 1 ≤ maxLen := by unfold maxLen; omega
              have b3 : w.heap.size ≤ (wr.alloc (.cells #[.int .u8 b.toNat] 5)).heap.size := by simp; omega
              go_wp2_with (at_builtin; refine wpList_append_gen _ rfl (.tmp 37) (.tmp 39) 24 24 rfl w.heap.size 5 i0 (.int .u8 0) 1 1 Try.underlying24 hi hz hsz hby rfl u4 j (by8 (E.take j)) rfl HOw'.out _ 1 [.int .u8 b.toNat] rfl HS.out b1 b2 b3 ?_; intro v' w' hown hfr hat; have HOn := hide hown; have HFn := hide hfr; clear hown hfr hat)
              go_roundw
              case rel => exact ⟨j + 1, by omega, by go_num, hide (by rw [HSN.out, by8_append]; exact HOn.out), hide ((HFr.out.alloc _).own HFn.out (fun g hg => .inl (HOw.out.lt g hg).1))⟩
              case measure => simp [intOf]; omega
            · rw [if_neg hmore] at hat
              have hb : (u : Int) / 2 ^ (7 * j) % 128 = (b.toNat : Int) := by rw [hat]; simp
              clear hat
              have HS := hide (Src.one (P := Try.prog) wr (e := 5) Try.underlying24 (.int .u8 b.toNat) rfl)
              have HOw' := hide (HOw.out.fr0 ((Fr.refl No wr).alloc (.cells #[.int .u8 b.toNat] 5)))
              have b1 : (j + 1) * 1 ≤ 140737488355328 := by omega
              have b2 : j + 1 ≤ maxLen := by unfold maxLen; omega
              have b3 : w.heap.size ≤ (wr.alloc (.cells #[.int .u8 b.toNat] 5)).heap.size := by simp; omega
              go_wp2_with (at_builtin; refine wpList_append_gen _ rfl (.tmp 37) (.tmp 39) 24 24 rfl w.heap.size 5 i0 (.int .u8 0) 1 1 Try.underlying24 hi hz hsz hby rfl u4 j (by8 (E.take j)) rfl HOw'.out _ 1 [.int .u8 b.toNat] rfl HS.out b1 b2 b3 ?_; intro v' w' hown hfr hat; have HOn := hide hown; have HFn := hide hfr; clear hown hfr hat)
              go_roundw
              case rel => exact ⟨j + 1, by omega, by go_num, hide (by rw [HSN.out, by8_append]; exact HOn.out), hide ((HFr.out.alloc _).own HFn.out (fun g hg => .inl (HOw.out.lt g hg).1))⟩
              case measure => simp [intOf]; omega
          · go_wp2
            go_ret
            have hjk : j = k := by omega
            refine ⟨_, rfl, ?_, HFr.out⟩
            have h := HOw.out
            rw [hjk, List.take_of_length_le (by rw [HL.out]; omega)] at h
            rw [HL.out]
            exact h

end Go.Proofs.Ytcdhbdhhknlbaaa
namespace Go.Proofs.Ytcdhbdhhknlbaaa
set_option linter.unusedVariables false
set_option linter.unusedSimpArgs false
open Go.RowKit

set_option maxRecDepth 100000 in
set_option maxHeartbeats 800000 in
theorem refText_any (s : ByteArray) (w : World) (hs : s.size ≤ 140737488350000) :
    Calls Try.prog 37 #[.string s] w (GivesB w (enc s.size ++ s.data.toList)) := by
  have H := hide (refUint_any s.size w (by omega))
  obtain ⟨i0, hi, hz, hsz, hby⟩ := info_parts Try.info5
  have hlen := (enc_len s.size).2
  generalize enc s.size = xs at H hlen
  generalize hm : s.size = m at *
  have HS := fun W => Src.ofString (P := Try.prog) (w := W) Try.underlying9 s
  rw [hm, byteCells_by8] at HS
  have HS' := hide HS
  have hsl : s.data.toList.length = m := by rw [← hm, Array.length_toList]; rfl
  generalize s.data.toList = t at HS' hsl
  have b1 : (xs.length + m) * 1 ≤ 140737488355328 := by omega
  have b2 : xs.length + m ≤ maxLen := by unfold maxLen; omega
  clear HS
  go_enter Try.func37, Try.ntmps37
  go_wp2_with (first | (go_at_call 36; refine H.out.mono ?_; rintro en w1 ⟨v1, rfl, hown, hfr⟩; have HO := hide hown; have HF := hide hfr; have b3 := hfr.size; clear hown hfr) | (at_builtin; refine wpList_append_gen _ rfl (.tmp 8) (.tmp 9) 24 9 rfl w.heap.size 5 i0 (.int .u8 0) 1 1 Try.underlying24 hi hz hsz hby rfl v1 xs.length (by8 xs) rfl HO.out _ m (by8 t) rfl (HS'.out w1) b1 b2 b3 ?_; intro v' w' hown hfr hat; have HOn := hide hown; have HFn := hide hfr; clear hown hfr hat))
  go_ret
  refine ⟨_, rfl, ?_, HF.out.own HFn.out (fun g hg => .inl (HO.out.lt g hg).1)⟩
  rw [by8_append, List.length_append, hsl]
  exact HOn.out
end Go.Proofs.Ytcdhbdhhknlbaaa
namespace Go.Proofs.Ytcdhbdhhknlbaaa
set_option linter.unusedVariables false
set_option linter.unusedSimpArgs false
open Go.RowKit

def P1 (l : List Tx) (i : Nat) : List UInt8 := if i % 16 = 0 then txt (l.getD i []) else stepB (l.getD (i - 1) []) (l.getD i [])
def P2 (l : List Tx) (at_ : List Nat) (i : Nat) : List UInt8 := if i % 16 = 15 ∨ i + 1 = l.length then valB ((at_.drop (i - i % 16)).take (i % 16 + 1)) else []
theorem piece_eq (l : List Tx) (at_ : List Nat) (i : Nat) : pieceB l at_ i = P1 l i ++ P2 l at_ i := rfl
theorem P1_le {l : List Tx} {i : Nat} (h : (l.getD i []).length ≤ 4096) : (P1 l i).length ≤ 4116 := by
  unfold P1 stepB
  split
  · have := txt_le (t := l.getD i []) (by omega)
    omega
  · rw [List.length_append]
    have b1 := (enc_len (shN (l.getD (i - 1) []) (l.getD i []))).2
    have b2 := txt_le (t := (l.getD i []).drop (shN (l.getD (i - 1) []) (l.getD i []))) (by rw [List.length_drop]; omega)
    rw [List.length_drop] at b2
    omega
theorem mod16b {k r : Nat} (h : k % 16 = r) : (k : Int) % 16 = (r : Int) := by omega
theorem modr_le {k r : Nat} (h : k % 16 = r) : r ≤ 2097152 := by omega
theorem prev_of {k r : Nat} (h : k % 16 = r) (h0 : r ≠ 0) : ∃ q, k = q + 1 := ⟨k - 1, by omega⟩
theorem wrap_smallb {x : Nat} (h : x ≤ 2097152) : wrap64 (x : Int) = (x : Int) := by unfold wrap64; omega
theorem wrap_predb {k : Nat} (h0 : 0 < k) (h : k ≤ 1048576) : wrap64 ((k : Int) - 1) = (k : Int) - 1 := by unfold wrap64; omega
def RBuildP (w : World) (l : List Tx) (at_ : List Nat) (en : Ending) (w' : World) : Prop :=
  Fr No w w' ∧ ((termsOk l at_ ∧ ∃ v m, m = (dictB l at_).length ∧ en = .returned (.tuple #[v, .int .i64 0]) ∧ Own w' w.heap.size 5 1 v m (by8 (dictB l at_))) ∨
    (¬ termsOk l at_ ∧ en = .returned (.tuple #[.slice none 0 0, .int .i64 1])))

set_option maxRecDepth 100000 in
set_option maxHeartbeats 4000000 in
theorem rbuild_any (A A2 : Option Addr) (n n2 c c2 B : Nat) (l : List Tx) (at_ : List Nat) (w : World) (hl : l.length = n) (hn : n ≤ c) (hc : c ≤ maxLen) (hl2 : at_.length = n2) (hn2 : n2 ≤ c2) (hc2 : c2 ≤ maxLen) (hB : B ≤ w.heap.size)
    (hr : Rd w B A (svs l)) (hr2 : Rd w B A2 (un at_)) (ht : ∀ t ∈ l, t.length ≤ maxLen) (hu : U64s at_) :
    Calls Try.prog 9 #[.slice A n c, .slice A2 n2 c2] w (RBuildP w l at_) := by
  have HL := hide hl
  have HL2 := hide hl2
  have HR := hide hr
  have HR2 := hide hr2
  have HT := hide ht
  have HU := hide hu
  have HBz := hide hB
  have HC := hide (And.intro hc hc2)
  clear hc hc2
  clear hl hl2 hr hr2 ht hu hB
  by_cases h1 : 1048576 < n
  · have HNo : Hid (¬ termsOk l at_) := hide (fun h => by have h2 := h.1; rw [HL.out] at h2; omega)
    have d1 : decide ((1048576 : Int) < n) = true := decide_eq_true (by omega)
    go_enter Try.func9, Try.ntmps9
    go_wp2_with (fail)
    go_ret2
    exact ⟨Fr.refl _ _, .inr ⟨HNo.out, rfl⟩⟩
  by_cases h2 : n = n2
  case neg =>
    have HNo : Hid (¬ termsOk l at_) := hide (fun h => by have h3 := h.2.1; rw [HL.out, HL2.out] at h3; exact h2 h3)
    have d1 : decide ((1048576 : Int) < n) = false := decide_eq_false (by omega)
    have d2 : ((n : Int) != n2) = true := by simp; omega
    go_enter Try.func9, Try.ntmps9
    go_wp2_with (fail)
    go_ret2
    exact ⟨Fr.refl _ _, .inr ⟨HNo.out, rfl⟩⟩
  case pos =>
  subst h2
  have d1 : decide ((1048576 : Int) < n) = false := decide_eq_false (by omega)
  have d2 : ((n : Int) != n) = false := by simp
  go_enter Try.func9, Try.ntmps9
  go_wp2_with (fail)
  go_loopw [6] (fun i wr => ∃ k nq : Nat, k ≤ n ∧ i = .int .i64 k ∧ wr = w.drewN nq ∧ Hid (∀ j, j < k → (l.getD j []).length ≤ 4096) ∧ Hid (∀ j, 0 < j → j < k → l.getD (j - 1) [] < l.getD j [])) (fun i _ => n - (intOf i).toNat)
  case atStart => exact ⟨0, 0, by omega, rfl, rfl, hide (fun j hj => by omega), hide (fun j h hj => by omega)⟩
  case round =>
    obtain ⟨k, nq, hk, rfl, rfl, HJ1, HJ2⟩ := hrel
    by_cases hlt : k < n
    · have hkl : k < l.length := by rw [HL.out]; exact hlt
      obtain ⟨ad, X, hA, hab, kc, hX1, hX2, hX3⟩ := cellStr HR.out hkl
      subst hA
      have hXl := HT.out _ (getD_mem hkl)
      unfold maxLen at hXl
      have HXL := hide hX2
      have HXS := hide hX3
      have hXs : X.size ≤ 9223372036854775807 := by rw [HXS.out]; omega
      have i1 : (0 : Int) ≤ (k : Int) := by omega
      have i2 : (k : Int) < (n : Int) := by omega
      clear hX1 hX2 hX3 hXl hab
      by_cases h4 : 4096 < X.size
      · have HNo : Hid (¬ termsOk l at_) := hide (fun h => by have := h.2.2.1 _ (getD_mem hkl); rw [← HXS.out] at this; omega)
        have e1 : decide ((4096 : Int) < (X.size : Int)) = true := decide_eq_true (by omega)
        clear hkl
        go_wp2_with (fail)
        go_quiet (fail)
        go_wp2_with (fail)
        go_ret2
        exact ⟨((Fr.refl No w).drewN _).drewN _, .inr ⟨HNo.out, rfl⟩⟩
      · have e1 : decide ((4096 : Int) < (X.size : Int)) = false := decide_eq_false (by omega)
        have HJ1' : Hid (∀ j, j < k + 1 → (l.getD j []).length ≤ 4096) := hide (fun j hj => by
          by_cases e : j = k
          · rw [e, ← HXS.out]; omega
          · exact HJ1.out j (by omega))
        by_cases h0 : k = 0
        · have HJ2' : Hid (∀ j, 0 < j → j < k + 1 → l.getD (j - 1) [] < l.getD j []) := hide (fun j h hj => by omega)
          have e2 : decide ((0 : Int) < (k : Int)) = false := decide_eq_false (by omega)
          have e2b : decide (0 < k) = false := decide_eq_false (by omega)
          clear hkl h0
          go_wp2_with (fail)
          go_quiet (fail)
          go_wp2_with (fail)
          go_roundw
          case rel => exact ⟨k + 1, _, by omega, by go_num, rfl, HJ1', HJ2'⟩
          case measure => simp [intOf]; omega
        · obtain ⟨q, hq⟩ : ∃ q, k = q + 1 := ⟨k - 1, by omega⟩
          have HQ := hide hq
          have hql : q < l.length := by omega
          obtain ⟨ad', P, hA, hab, kq, _, hP2, _⟩ := cellStr HR.out hql
          injection hA with hA
          subst hA
          have HPL := hide hP2
          have e2 : decide ((0 : Int) < (k : Int)) = true := decide_eq_true (by omega)
          have e2b : decide (0 < k) = true := decide_eq_true (by omega)
          have i3 : IntKind.i64.wrap ((k : Int) - 1) = (q : Int) := by rw [show (k : Int) - 1 = (q : Int) by omega]; exact IntWalk.i64_in _ (by omega)
          have i3b : (k : Int) - 1 = (q : Int) := by omega
          have i4 : (0 : Int) ≤ (q : Int) := by omega
          have i5 : (q : Int) < (n : Int) := by omega
          clear hP2 hab
          by_cases hlt2 : l.getD q [] < l.getD k []
          · have e3 : Op.bytesLess P.toList X.toList = true := by rw [HPL.out, HXL.out, bytesLess_eq]; exact decide_eq_true hlt2
            have HJ2' : Hid (∀ j, 0 < j → j < k + 1 → l.getD (j - 1) [] < l.getD j []) := hide (fun j h hj => by
              by_cases e : j = k
              · rw [e, hq, Nat.add_sub_cancel, ← hq]; exact hlt2
              · exact HJ2.out j h (by omega))
            clear hkl hql hlt2 h0 hq
            go_wp2_with (fail)
            go_quiet (fail)
            go_wp2_with (fail)
            go_roundw
            case rel => exact ⟨k + 1, _, by omega, by go_num, rfl, HJ1', HJ2'⟩
            case measure => simp [intOf]; omega
          · have e3 : Op.bytesLess P.toList X.toList = false := by rw [HPL.out, HXL.out, bytesLess_eq]; exact decide_eq_false hlt2
            have HNo : Hid (¬ termsOk l at_) := hide (fun h => not_asc (k := k) (by omega) hkl (by rw [hq, Nat.add_sub_cancel, ← hq]; exact hlt2) h.2.2.2)
            clear hkl hql hlt2 h0 hq
            go_wp2_with (fail)
            go_quiet (fail)
            go_wp2_with (fail)
            go_ret2
            exact ⟨((Fr.refl No w).drewN _).drewN _, .inr ⟨HNo.out, rfl⟩⟩
    · obtain rfl : k = n := by omega
      have HOk : Hid (termsOk l at_) := hide ⟨by rw [HL.out]; omega, by rw [HL.out, HL2.out], le_of (fun j hj => HJ1.out j (by rw [← HL.out]; exact hj)), asc_of (fun j h hj => HJ2.out j h (by rw [← HL.out]; exact hj))⟩
      have e1 : decide ((k : Int) < k) = false := by simp
      have hwC : IntKind.u64.wrap (k : Int) = (k : Int) := IntWalk.u64_in _ (by omega)
      have HPu := hide (refUint_any k (w.drewN nq) (by omega))
      have HF0 : Hid (Fr No w (w.drewN nq)) := hide ((Fr.refl No w).drewN nq)
      generalize w.drewN nq = w0 at HPu HF0 ⊢
      clear HJ1 HJ2 hlt
      go_wp2_with (fail)
      refine HPu.out.mono ?_
      rintro en w1 ⟨v1, rfl, hown, hfr⟩
      have HF1 : Hid (Fr No w w1) := hide (HF0.out.tr hfr)
      have HO1 := hide (hown.lower HF0.out.size)
      obtain ⟨z1, hz1⟩ : ∃ z, z = (enc k).length := ⟨_, rfl⟩
      rw [← hz1] at HO1
      have HZ1 := hide hz1
      have hzb1 : z1 ≤ 10 := by rw [hz1]; exact (enc_len k).2
      clear hown hfr HPu hwC e1 d1 d2 hz1 HF0
      go_wp2_with (fail)
      go_loopw [8, 7] (fun i v wr => ∃ (i' z : Nat) (Z : List UInt8), i = .int .i64 i' ∧ i' ≤ k ∧ Hid (Z ++ tailB l at_ i' = dictB l at_) ∧ Hid (z = Z.length) ∧ Hid (z ≤ 10 + 4276 * i') ∧ Hid (Own wr w.heap.size 5 1 v z (by8 Z)) ∧ Hid (Fr No w wr)) (fun i _ _ => k - (intOf i).toNat)
      case atStart => exact ⟨0, z1, enc k, rfl, by omega, hide (by rw [dictB, HL.out]), HZ1, hide (by omega), HO1, HF1⟩
      case round =>
        obtain ⟨wo, rfl⟩ : ∃ wo : World, wo = wr := ⟨_, rfl⟩
        obtain ⟨i', z, Z, rfl, hib, HZ, Hz, HZb, HO, HFr⟩ := hrel
        clear HO1 HF1
        by_cases hlt : i' < k
        · have hil : i' < l.length := by rw [HL.out]; exact hlt
          obtain ⟨i0, hi, hz, hsz, hby⟩ := info_parts Try.info5
          obtain ⟨ad, X, hA, hab, kc, hX1, hX2, hX3⟩ := cellStr (HR.out.fr0 HFr.out) hil
          subst hA
          have hXl : (l.getD i' []).length ≤ 4096 := HOk.out.2.2.1 _ (getD_mem hil)
          have hxl : X.size ≤ 4096 := by rw [hX3]; exact hXl
          have HX1 := hide hX1
          have HX3 := hide hX3
          have hP1 := P1_le (l := l) (i := i') hXl
          have HP1 := hide hP1
          have j1 : (0 : Int) ≤ (i' : Int) := by omega
          have j2 : (i' : Int) < (k : Int) := by omega
          have hzb2 : z ≤ 5000000000 := by have := HZb.out; omega
          have HAb := hide (show ad.block < w.heap.size by have := HBz.out; omega)
          obtain ⟨r, hr⟩ : ∃ r : Nat, i' % 16 = r := ⟨_, rfl⟩
          have ir : (i' : Int) % 16 = (r : Int) := mod16b hr
          have irw : wrap64 (r : Int) = (r : Int) := wrap_smallb (modr_le hr)
          have HRr := hide hr
          have HIr := hide ir
          have HIrw := hide irw
          clear hr ir irw
          obtain ⟨gb, hgb⟩ : ∃ gb : Bool, gb = decide (r = 0) := ⟨_, rfl⟩
          have hg0 : ((r : Int) == 0) = gb := by rw [hgb]; by_cases h : r = 0 <;> simp [h]
          have HGb := hide hgb
          clear hX1 hX2 hX3 hgb hXl hP1 hab
          go_upto_region 12 with (fail)
          refine wp_named fun K hK => ?_
          go_cut [65] from 63 to 65 (fun v wx => v = .bool gb ∧ wx = wo)
          case first =>
            clear hzb2 hib hn hn2 hxl h1 hk hil hlt j2 kc
            have ir := HIr.out
            have irw := HIrw.out
            go_wp2_with (fail)
            go_meet
            exact ⟨by first | rfl | rw [hg0], rfl⟩
          case rest =>
          obtain ⟨rfl, rfl⟩ := hcut
          obtain ⟨wo, rfl⟩ : ∃ W : World, W = wc := ⟨_, rfl⟩
          refine hK _ _ ?_
          clear hK hg0
          go_upto_if 65 with (fail)
          refine wp_named fun K hK => ?_
          go_cut [7] from 66 to 99 (fun v wx => ∃ z', Hid (z' = (Z ++ P1 l i').length) ∧ z' ≤ z + 4116 ∧ Hid (Own wx w.heap.size 5 1 v z' (by8 (Z ++ P1 l i'))) ∧ Hid (Fr No w wx))
          case first =>
            cases hgb : gb with
            | true =>
              have hP : Hid (P1 l i' = enc X.size ++ X.data.toList) := hide (by
                have h := HGb.out
                rw [hgb] at h
                have h := of_decide_eq_true h.symm
                unfold P1
                rw [if_pos (by rw [HRr.out]; exact h), txt, ← HX3.out, HX1.out])
              have HTx := hide (refText_any X wo (by omega))
              subst hgb
              obtain ⟨x, hx⟩ : ∃ x, x = enc X.size ++ X.data.toList := ⟨_, rfl⟩
              rw [← hx] at HTx hP
              obtain ⟨m, hm⟩ : ∃ m, m = x.length := ⟨_, rfl⟩
              have hmb : m ≤ 4116 := by rw [hm, ← hP.out]; exact HP1.out
              have HM := hide hm
              have b1 : (z + m) * 1 ≤ 140737488355328 := by omega
              have b2 : z + m ≤ maxLen := by unfold maxLen; omega
              clear hx hm
              go_wp2_with (first
                | (go_at_call 37; refine HTx.out.mono ?_; rintro en w5 ⟨v5, rfl, hown, hfr⟩; rw [← HM.out] at hown; obtain ⟨A5, c5, rfl, _⟩ := hown.form; have HO5 := hide (HO.out.fr0 hfr); have HF5 : Hid (Fr No w w5) := hide (HFr.out.tr hfr); have HS5 := hide (Src.ofRd (P := Try.prog) (size := 1) w5 Try.underlying24 A5 m c5 (by8 x) (by rw [by8_length, ← HM.out]; omega) (by omega) hown.rd (by8_one _)); have b3 := HF5.out.size; clear hown hfr)
                | (at_builtin; refine wpList_append_gen _ rfl (.tmp 71) (.tmp 72) 24 24 rfl w.heap.size 5 i0 (.int .u8 0) 1 1 Try.underlying24 hi hz hsz hby rfl u7 z (by8 Z) rfl HO5.out _ m (by8 x) rfl HS5.out b1 b2 b3 ?_; intro v6 w6 hown hfr hat; have HO6 := hide hown; have HF6 : Hid (Fr No w w6) := hide (HF5.out.own hfr (fun k hk => .inl (HO5.out.lt k hk).1)); clear hown hfr hat)
                | fail)
              go_meet
              exact ⟨z + m, hide (by rw [List.length_append, ← Hz.out, hP.out, ← HM.out]), by omega, hide (by rw [hP.out, by8_append]; exact HO6.out), HF6⟩
            | false =>
              have hr0 : r ≠ 0 := by
                have h := HGb.out
                rw [hgb] at h
                exact of_decide_eq_false h.symm
              obtain ⟨q, hq⟩ : ∃ q, i' = q + 1 := prev_of HRr.out hr0
              have hql : q < l.length := by omega
              obtain ⟨ad', P, hA, _, kq, hP1, _, hP3⟩ := cellStr (HR.out.fr0 HFr.out) hql
              injection hA with hA
              subst hA
              have hpl : P.size ≤ 4096 := by rw [hP3]; exact HOk.out.2.2.1 _ (getD_mem hql)
              have HSh := hide (fun W => refShared_any P X W (by unfold maxLen; omega) (by unfold maxLen; omega))
              obtain ⟨s, hs⟩ : ∃ s, s = shN P.data.toList X.data.toList := ⟨_, rfl⟩
              have hsle := shN_le P.data.toList X.data.toList
              rw [← hs] at HSh hsle
              have hsX : s ≤ X.size := by rw [HX3.out, ← HX1.out]; exact hsle.2
              have hP : Hid (P1 l i' = enc s ++ (enc (X.size - s) ++ X.data.toList.drop s)) := hide (by
                unfold P1
                rw [if_neg (by rw [HRr.out]; exact hr0), show i' - 1 = q by omega, stepB, ← HX1.out, ← hP1, ← hs, txt, List.length_drop, HX1.out, ← HX3.out])
              have i4 : (0 : Int) ≤ (q : Int) := by omega
              have i5 : (q : Int) < (k : Int) := by omega
              have i8 : IntKind.i64.wrap ((i' : Int) - 1) = (q : Int) := by rw [show (i' : Int) - 1 = (q : Int) by omega]; exact IntWalk.i64_in _ (by omega)
              have i8b : (i' : Int) - 1 = (q : Int) := by omega
              clear hP1 hP3 hq hql hs hsle hr0
              subst hgb
              go_wp2_with (fail)
              go_quiet ((go_at_call 38; exact Calls.quiet_of (HSh.out _)))
              obtain ⟨wd, hwd⟩ : ∃ W, W = wo.drewN nq := ⟨_, rfl⟩
              have HFd : Hid (Fr No w wd) := hide (by rw [hwd]; exact HFr.out.drewN nq)
              have HOd : Hid (Own wd w.heap.size 5 1 u7 z (by8 Z)) := hide (by rw [hwd]; exact HO.out.fr0 ((Fr.refl No wo).drewN nq))
              have kd : wd.cell? (ad.add i') = some (.string X) := by rw [hwd]; exact kc
              rw [← hwd]
              have HKd := hide kd
              clear hwd kc i8 i8b kq kd
              have iw8 : IntKind.u64.wrap (s : Int) = (s : Int) := IntWalk.u64_in _ (by omega)
              have i9 : (0 : Int) ≤ (s : Int) := by omega
              have i10 : (s : Int) ≤ (X.size : Int) := by omega
              have hTs : (X.extract s X.size).size = X.size - s := by rw [ByteArray.size_extract]; omega
              have hTl : (X.extract s X.size).data.toList = X.data.toList.drop s := by rw [← ByteArray.toList_eq, Lib.extract_toList, List.take_of_length_le (by rw [List.length_drop, Array.length_toList]; exact Nat.le_refl _)]
              have HUi := hide (refUint_any s wd (by omega))
              have HTx := hide (fun W => refText_any (X.extract s X.size) W (by rw [hTs]; omega))
              rw [hTs, hTl] at HTx
              obtain ⟨x, hx⟩ : ∃ x, x = enc (X.size - s) ++ X.data.toList.drop s := ⟨_, rfl⟩
              rw [← hx] at HTx hP
              obtain ⟨m, hm⟩ : ∃ m, m = x.length := ⟨_, rfl⟩
              obtain ⟨m2, hm2⟩ : ∃ m, m = (enc s).length := ⟨_, rfl⟩
              have hmb : m2 + m ≤ 4116 := by
                have := HP1.out
                rw [hP.out, List.length_append] at this
                omega
              have HM := hide hm
              have HM2 := hide hm2
              have b1 : (z + m2) * 1 ≤ 140737488355328 := by omega
              have b2 : z + m2 ≤ maxLen := by unfold maxLen; omega
              have b1' : (z + m2 + m) * 1 ≤ 140737488355328 := by omega
              have b2' : z + m2 + m ≤ maxLen := by unfold maxLen; omega
              clear hx hm hm2 hTs hTl
              go_wp2_with (first
                | (go_at_call 36; refine HUi.out.mono ?_; rintro en w5 ⟨v5, rfl, hown, hfr⟩; rw [← HM2.out] at hown; obtain ⟨A5, c5, rfl, _⟩ := hown.form; have HO5 := hide hown; have HF5 := hide hfr; have k5 : w5.cell? (ad.add i') = some (.string X) := hfr.cell HKd.out (fun h => h); clear hown hfr)
                | (go_at_call 37; refine (HTx.out w5).mono ?_; rintro en w6 ⟨v6, rfl, hown, hfr⟩; rw [← HM.out] at hown; obtain ⟨A6, c6, rfl, _⟩ := hown.form; have HO6 := hide hown; have HF6 : Hid (Fr No wd w6) := hide (HF5.out.tr hfr); have HFw6 : Hid (Fr No w w6) := hide (HFd.out.tr HF6.out); have HOz6 := hide (HOd.out.fr0 HF6.out); have HS6 := hide (Src.ofRd (P := Try.prog) (size := 1) w6 Try.underlying24 A5 m2 c5 (by8 (enc s)) (by rw [by8_length, ← HM2.out]; omega) (by omega) (HO5.out.fr0 hfr).rd (by8_one _)); have b3 := HFw6.out.size; clear hown hfr)
                | (at_builtin; refine wpList_append_gen _ rfl (.tmp 94) (.tmp 95) 24 24 rfl w.heap.size 5 i0 (.int .u8 0) 1 1 Try.underlying24 hi hz hsz hby rfl u7 z (by8 Z) rfl HOz6.out _ m2 (by8 (enc s)) rfl HS6.out b1 b2 b3 ?_; intro v7 w7 hown hfr hat; have HO7 := hide hown; have HF7 : Hid (Fr No w w7) := hide (HFw6.out.own hfr (fun k hk => .inl (HOz6.out.lt k hk).1)); have b3' := HF7.out.size; have HO67 : Hid (Own w7 w5.heap.size 5 1 (.slice A6 m c6) m (by8 x)) := hide (HO6.out.above hfr (fun k hk => Nat.lt_of_lt_of_le (HOd.out.lt k hk).2 HF5.out.size)); have HS7 := hide (Src.ofRd (P := Try.prog) (size := 1) w7 Try.underlying24 A6 m c6 (by8 x) (by rw [by8_length, ← HM.out]; omega) (by omega) HO67.out.rd (by8_one _)); clear hown hfr hat)
                | (at_builtin; refine wpList_append_gen _ rfl (.tmp 97) (.tmp 98) 24 24 rfl w.heap.size 5 i0 (.int .u8 0) 1 1 Try.underlying24 hi hz hsz hby rfl v7 (z + m2) _ rfl HO7.out _ m (by8 x) rfl HS7.out b1' b2' b3' ?_; intro v8 w8 hown hfr hat; have HO8 := hide hown; have HF8 : Hid (Fr No w w8) := hide (HF7.out.own hfr (fun k hk => .inl (HO7.out.lt k hk).1)); clear hown hfr hat)
                | fail)
              go_meet
              exact ⟨z + m2 + m, hide (by rw [hP.out, List.length_append, List.length_append, ← Hz.out, ← HM.out, ← HM2.out]; omega), by omega, hide (by rw [hP.out, by8_append, by8_append, ← List.append_assoc]; exact HO8.out), HF8⟩
          case rest =>
            obtain ⟨z', Hz', hz', HO', HF'⟩ := hcut
            refine hK _ _ ?_
            clear hK kc hi hz hsz hby HP1 HX1 HX3 hxl HGb HO HFr
            obtain ⟨w5, rfl⟩ : ∃ W : World, W = wc := ⟨_, rfl⟩
            obtain ⟨i0, hi, hz, hsz, hby⟩ := info_parts Try.info5
            obtain ⟨g2, hg2⟩ : ∃ g2 : Bool, g2 = decide (r = 15 ∨ i' + 1 = k) := ⟨_, rfl⟩
            have HG2 := hide hg2
            have e15 : ((r : Int) == 15) = decide (r = 15) := by
              by_cases h : r = 15
              · rw [h]; rfl
              · rw [decide_eq_false h]; simp; omega
            have ek : ((i' : Int) == (k : Int) - 1) = decide (i' + 1 = k) := by
              by_cases h : i' + 1 = k
              · rw [decide_eq_true h]; simp; omega
              · rw [decide_eq_false h]; simp; omega
            have HE15 := hide e15
            have HKw := hide (wrap_predb (k := k) (by omega) (by omega))
            have HEk := hide ek
            clear hg2 e15 ek
            go_upto_region 20 with (fail)
            refine wp_named fun K hK => ?_
            go_cut [109] from 100 to 109 (fun v wx => v = .bool g2 ∧ wx = w5)
            case first =>
              by_cases h15 : r = 15
              · have HX : Hid (g2 = true) := hide (by rw [HG2.out]; simp [h15])
                have e1 := HE15.out
                rw [decide_eq_true h15] at e1
                clear hzb2 hib hn hn2 h1 hk hil hlt j2 hz' h15
                have ir := HIr.out
                have irw := HIrw.out
                go_wp2_with (fail)
                go_meet
                exact ⟨by rw [HX.out], rfl⟩
              · have HX : Hid (g2 = decide (i' + 1 = k)) := hide (by rw [HG2.out]; simp [h15])
                have e1 := HE15.out
                rw [decide_eq_false h15] at e1
                have e2 := HEk.out
                rw [← HX.out] at e2
                clear hzb2 hib hn hn2 h1 hk hil hlt j2 hz' h15
                have ir := HIr.out
                have irw := HIrw.out
                go_wp2_with (fail)
                go_meet
                exact ⟨by first | rfl | rw [e2] | rw [HKw.out, e2], rfl⟩
            case rest =>
            obtain ⟨rfl, rfl⟩ := hcut
            obtain ⟨w5, rfl⟩ : ∃ W : World, W = wc := ⟨_, rfl⟩
            refine hK _ _ ?_
            clear hK HE15 HEk
            have hrs : r ≤ i' := by rw [← HRr.out]; exact Nat.mod_le _ _
            have hr16 : r ≤ 15 := by have h1 := HRr.out; have h2 := Nat.mod_lt i' (show 0 < 16 by decide); rw [h1] at h2; exact Nat.le_of_lt_succ h2
            go_upto_if 109 with (fail)
            refine wp_named fun K hK => ?_
            go_cut [7] from 110 to 126 (fun v wx => ∃ z2, Hid (z2 = (Z ++ P1 l i' ++ P2 l at_ i').length) ∧ z2 ≤ z' + 160 ∧ Hid (Own wx w.heap.size 5 1 v z2 (by8 (Z ++ P1 l i' ++ P2 l at_ i'))) ∧ Hid (Fr No w wx))
            case first =>
              cases hgb : g2 with
              | true =>
                have hP : Hid (P2 l at_ i' = valB ((at_.drop (i' - r)).take (r + 1))) := hide (by
                  have h := HG2.out
                  rw [hgb] at h
                  have h := of_decide_eq_true h.symm
                  unfold P2
                  rw [if_pos (by rw [HRr.out, HL.out]; exact h), HRr.out])
                subst hgb
                obtain ⟨s0, hs0⟩ : ∃ s0, s0 = i' - r := ⟨_, rfl⟩
                have hsI : (i' : Int) - (r : Int) = (s0 : Int) := by omega
                have hsw : IntKind.i64.wrap (s0 : Int) = (s0 : Int) := IntWalk.i64_in _ (by omega)
                have hse : i' = s0 + r := by omega
                have HSe := hide hse
                rw [← hs0] at hP
                clear hs0 hse
                go_upto_region 21 with (fail)
                refine wp_named fun K2 hK2 => ?_
                go_cut [13] from 110 to 113 (fun v wx => v = .int .i64 (s0 : Nat) ∧ wx = w5)
                case first =>
                  clear hzb2 hib hn hn2 h1 hk hil hlt j2 hz' hrs hr16
                  have ir := HIr.out
                  have irw := HIrw.out
                  go_wp2_with (fail)
                  go_meet
                  exact ⟨rfl, rfl⟩
                case rest =>
                obtain ⟨rfl, rfl⟩ := hcut
                obtain ⟨w5, rfl⟩ : ∃ W : World, W = wc := ⟨_, rfl⟩
                refine hK2 _ _ ?_
                clear hK2 hsI hsw
                go_wp2_with (fail)
                go_loopw [13, 7] (fun kk v wx => ∃ (q k3 z3 : Nat) (Z3 : List UInt8), kk = .int .i64 k3 ∧ Hid (k3 = s0 + q) ∧ q ≤ r + 1 ∧ k3 ≤ i' + 1 ∧ Hid (Z3 = Z ++ P1 l i' ++ valB ((at_.drop s0).take q)) ∧ Hid (z3 = Z3.length) ∧ z3 ≤ z' + 10 * q ∧ Hid (Own wx w.heap.size 5 1 v z3 (by8 Z3)) ∧ Hid (Fr No w wx)) (fun kk _ _ => i' + 1 - (intOf kk).toNat)
                case atStart => exact ⟨0, s0, z', Z ++ P1 l i', rfl, hide rfl, by omega, by have := HSe.out; omega, hide (by simp [valB]), Hz', by omega, HO', HF'⟩
                case round =>
                  obtain ⟨wz, rfl⟩ : ∃ wz : World, wz = wr := ⟨_, rfl⟩
                  obtain ⟨q, k3, z3, Z3, rfl, HK3, hq, hk3, HZ3, Hz3, hz3, HO3, HF3⟩ := hrel
                  clear HO' HF'
                  by_cases hlt3 : k3 ≤ i'
                  · have hvl : k3 < at_.length := by rw [HL2.out]; omega
                    obtain ⟨ad2, hA2, _, kv⟩ := cellU64 (HR2.out.fr0 HF3.out) hvl
                    subst hA2
                    have hVu : at_.getD k3 0 < 18446744073709551616 := by
                      rw [List.getD, List.getElem?_eq_getElem hvl]
                      exact HU.out _ (List.getElem_mem hvl)
                    obtain ⟨v, hv⟩ : ∃ v, v = at_.getD k3 0 := ⟨_, rfl⟩
                    rw [← hv] at kv hVu
                    have HVT : Hid (valB ((at_.drop s0).take (q + 1)) = valB ((at_.drop s0).take q) ++ enc v) := hide (by
                      rw [take_getD 0 (by rw [List.length_drop, HL2.out]; have := HK3.out; omega), valB_snoc, hv, HK3.out]
                      simp)
                    have HUi := hide (refUint_any v wz hVu)
                    obtain ⟨m, hm⟩ : ∃ m, m = (enc v).length := ⟨_, rfl⟩
                    have hmb : m ≤ 10 := by rw [hm]; exact (enc_len v).2
                    have HM := hide hm
                    have q1 : (0 : Int) ≤ (k3 : Int) := by omega
                    have q2 : (k3 : Int) < (k : Int) := by omega
                    have q3 : (k3 : Int) ≤ (i' : Int) := by omega
                    have b1 : (z3 + m) * 1 ≤ 140737488355328 := by omega
                    have b2 : z3 + m ≤ maxLen := by unfold maxLen; omega
                    clear hvl hv hVu hm
                    go_wp2_with (first
                      | (go_at_call 36; refine HUi.out.mono ?_; rintro en w6 ⟨v6, rfl, hown, hfr⟩; rw [← HM.out] at hown; obtain ⟨A6, c6, rfl, _⟩ := hown.form; have HO6 := hide (HO3.out.fr0 hfr); have HF6 : Hid (Fr No w w6) := hide (HF3.out.tr hfr); have HS6 := hide (Src.ofRd (P := Try.prog) (size := 1) w6 Try.underlying24 A6 m c6 (by8 (enc v)) (by rw [by8_length, ← HM.out]; omega) (by omega) hown.rd (by8_one _)); have b3 := HF6.out.size; clear hown hfr)
                      | (at_builtin; refine wpList_append_gen _ rfl (.tmp 124) (.tmp 125) 24 24 rfl w.heap.size 5 i0 (.int .u8 0) 1 1 Try.underlying24 hi hz hsz hby rfl u7 z3 (by8 Z3) rfl HO6.out _ m (by8 (enc v)) rfl HS6.out b1 b2 b3 ?_; intro v7 w7 hown hfr hat; have HO7 := hide hown; have HF7 : Hid (Fr No w w7) := hide (HF6.out.own hfr (fun k hk => .inl (HO6.out.lt k hk).1)); clear hown hfr hat)
                      | fail)
                    go_roundw
                    case rel => exact ⟨q + 1, k3 + 1, z3 + m, Z3 ++ enc v, by go_num, hide (by rw [HK3.out]; omega), by have h1 := HK3.out; have h2 := HSe.out; omega, by omega, hide (by rw [HZ3.out, HVT.out, List.append_assoc]), hide (by rw [List.length_append, ← Hz3.out, ← HM.out]), by omega, hide (by rw [by8_append]; exact HO7.out), HF7⟩
                    case measure => simp [intOf]; omega
                  · have hq2 : q = r + 1 := by have h1 := HK3.out; have h2 := HSe.out; omega
                    have HZf : Hid (Z3 = Z ++ P1 l i' ++ P2 l at_ i') := hide (by rw [HZ3.out, hP.out, hq2])
                    have q3 : decide ((k3 : Int) ≤ (i' : Int)) = false := decide_eq_false (by omega)
                    have q4 : decide (k3 ≤ i') = false := decide_eq_false hlt3
                    clear hq2 hlt3
                    go_wp2_with (fail)
                    go_meet
                    exact ⟨z3, hide (by rw [Hz3.out, HZf.out]), by omega, hide (by rw [← HZf.out]; exact HO3.out), HF3⟩
              | false =>
                have hP : Hid (P2 l at_ i' = []) := hide (by
                  have h := HG2.out
                  rw [hgb] at h
                  have h := of_decide_eq_false h.symm
                  unfold P2
                  rw [if_neg (by rw [HRr.out, HL.out]; exact h)])
                subst hgb
                go_wp2_with (fail)
                go_meet
                exact ⟨z', hide (by rw [hP.out, List.append_nil]; exact Hz'.out), by omega, hide (by rw [hP.out, List.append_nil]; exact HO'.out), HF'⟩
            case rest =>
              obtain ⟨z2, Hz2, hz2, HO2, HF2⟩ := hcut
              refine hK _ _ ?_
              clear hK HO' HF' hi hz hsz hby
              have HZn : Hid (Z ++ P1 l i' ++ P2 l at_ i' ++ tailB l at_ (i' + 1) = dictB l at_) := hide (by
                rw [← HZ.out, tailB_step hil, piece_eq]
                simp)
              go_wp2_with (fail)
              go_roundw
              case rel => exact ⟨i' + 1, z2, _, by go_num, by omega, HZn, Hz2, hide (by have := HZb.out; omega), HO2, HF2⟩
              case measure => simp [intOf]; omega
        · have HDi : Hid (Z = dictB l at_) := hide (by rw [← HZ.out, tailB_end (by rw [HL.out]; omega), List.append_nil])
          have d1 : decide ((i' : Int) < (k : Int)) = false := decide_eq_false (by omega)
          have d1b : decide (i' < k) = false := decide_eq_false hlt
          go_wp2_with (fail)
          go_ret2
          refine ⟨HFr.out, .inl ⟨HOk.out, _, z, by rw [← HDi.out]; exact Hz.out, rfl, ?_⟩⟩
          rw [← HDi.out]
          exact HO.out
end Go.Proofs.Ytcdhbdhhknlbaaa
