/- The check of bytes, as the document reckons it: bit by bit; bytes with their check behind them. -/
import Derived.Test.YtapfbjaopbcgjaaSumW
import Derived.Test.YtapfbjaopbcgjaaFour
namespace Go.Proofs.Ytapfbjaopbcgjaa
set_option linter.unusedVariables false
set_option linter.unusedSimpArgs false
open Go.RowKit

theorem bit_and (b q : Nat) (hb : b < 256) : bits .and .u32 ((b : Int) / 2 ^ q % 4294967296) 1 = ((b / 2 ^ q % 2 : Nat) : Int) := by
  have h : b / 2 ^ q ≤ b := Nat.div_le_self _ _
  have e : (b : Int) / 2 ^ q % 4294967296 = ((b / 2 ^ q : Nat) : Int) := by
    have e1 : ((b / 2 ^ q : Nat) : Int) = (b : Int) / 2 ^ q := by simp
    rw [← e1]
    generalize b / 2 ^ q = z at h
    omega
  rw [e]
  have := u32_and_nat (b / 2 ^ q) 1 (by omega) (by omega)
  rw [Nat.and_one_is_mod] at this
  exact this

set_option maxRecDepth 100000 in
set_option maxHeartbeats 800000 in
theorem refSum_any (A : Option Addr) (n c B : Nat) (bs : List UInt8) (w : World) (hl : bs.length = n) (hn : n ≤ c) (hc : c ≤ maxLen) (hr : Rd w B A (by8 bs)) :
    Calls Try.prog 14 #[.slice A n c] w (RetQ (.int .u32 (crcOf bs : Nat)) w) := by
  unfold maxLen at hc
  have HR := hide hr
  have HL := hide hl
  clear hr hl
  go_enter Try.func14, Try.ntmps14
  go_wp2
  go_loopw [3, 4] (fun c i wr => ∃ (k y nq : Nat), k ≤ n ∧ i = .int .i64 k ∧ c = .int .u32 (y : Nat) ∧ y < 4294967296 ∧ Hid (y = reg 4294967295 (bs.take k)) ∧ wr = w.drewN nq) (fun _ i _ => n - (intOf i).toNat)
  case atStart => exact ⟨0, 4294967295, 0, by omega, rfl, rfl, by decide, hide rfl, rfl⟩
  case round =>
    obtain ⟨k, y, nq, hk, rfl, rfl, hy, HY, rfl⟩ := hrel
    by_cases hlt : k < n
    · have h1 : k < bs.length := by rw [HL.out]; exact hlt
      obtain ⟨ad, rfl, _, hcell⟩ := HR.out.byte h1
      have HSn := hide (take_snoc8 h1)
      clear h1
      generalize bs.getD k 0 = b at hcell HSn
      have hb := b.toNat_lt
      obtain ⟨wo, hwo⟩ : ∃ wo : World, wo = w.drewN nq := ⟨_, rfl⟩
      rw [← hwo]
      have HWO := hide hwo
      have hcell' : wo.cell? (ad.add k) = some (.int .u8 (b.toNat : Nat)) := by rw [hwo]; exact hcell
      clear hcell hwo
      go_wp2
      go_loopw [3, 5] (fun c j wr => ∃ (q y2 nq2 : Nat), q ≤ 8 ∧ j = .int .i64 q ∧ c = .int .u32 (y2 : Nat) ∧ y2 < 4294967296 ∧ Hid (crcN q (y ^^^ b.toNat) = y2 ^^^ b.toNat / 2 ^ q) ∧ wr = wo.drewN nq2) (fun _ j _ => 8 - (intOf j).toNat)
      case atStart => exact ⟨0, y, 0, by omega, rfl, rfl, hy, hide (by simp [crcN]), rfl⟩
      case round =>
        obtain ⟨q, y2, nq2, hq, rfl, rfl, hy2, HQ, rfl⟩ := hrel
        by_cases hlt2 : q < 8
        · have e1 := crc_and1 y2 hy2
          have e2 := bit_and b.toNat q hb
          have HC := hide (crc_bit (k := q) HQ.out)
          obtain ⟨m1, HM1⟩ : ∃ m1, Hid (m1 = y2 % 2) := ⟨_, hide rfl⟩
          obtain ⟨m2, HM2⟩ : ∃ m2, Hid (m2 = b.toNat / 2 ^ q % 2) := ⟨_, hide rfl⟩
          rw [← HM1.out] at e1 HC
          rw [← HM2.out] at e2 HC
          by_cases hm : m1 = m2
          · subst hm
            have HC' := hide (show crcN (q + 1) (y ^^^ b.toNat) = y2 / 2 ^^^ b.toNat / 2 ^ (q + 1) by have h := HC.out; rwa [if_pos rfl] at h)
            have hbb : ((m1 : Int) != m1) = false := by simp
            go_wp2
            go_roundw
            case rel => exact ⟨q + 1, y2 / 2, _, by omega, by go_num, rfl, by omega, HC', rfl⟩
            case measure => simp [intOf]; omega
          · have HC' := hide (show crcN (q + 1) (y ^^^ b.toNat) = (y2 / 2 ^^^ 3988292384) ^^^ b.toNat / 2 ^ (q + 1) by have h := HC.out; rwa [if_neg hm] at h)
            have hbb : ((m1 : Int) != m2) = true := by simp; omega
            have hlt3 : y2 / 2 ^^^ 3988292384 < 4294967296 := xor_lt32 (by omega) (by omega)
            have e3 : bits .xor .u32 ((y2 : Int) / 2) 3988292384 = ((y2 / 2 ^^^ 3988292384 : Nat) : Int) := u32_xor_nat (y2 / 2) 3988292384 (by omega) (by omega)
            generalize y2 / 2 ^^^ 3988292384 = y3 at HC' hlt3 e3
            go_wp2
            go_roundw
            case rel => exact ⟨q + 1, y3, _, by omega, by go_num, rfl, hlt3, HC', rfl⟩
            case measure => simp [intOf]; omega
        · obtain rfl : q = 8 := by omega
          have HN := hide (show y2 = reg 4294967295 (bs.take (k + 1)) by
            rw [HSn.out, reg_snoc, ← HY.out]
            have h := HQ.out
            rw [h, show b.toNat / 2 ^ 8 = 0 by omega, Nat.xor_zero])
          go_wp2
          go_roundw
          case rel => exact ⟨k + 1, y2, _, by omega, by go_num, rfl, hy2, HN, by rw [HWO.out]; exact World.drewN_drewN _ _ _⟩
          case measure => simp [intOf]; omega
    · obtain rfl : k = n := by omega
      have e : bits .xor .u32 (y : Int) 4294967295 = ((crcOf bs : Nat) : Int) := by
        have h := u32_xor_nat y 4294967295 hy (by omega)
        rw [HY.out, List.take_of_length_le (Nat.le_of_eq HL.out)] at h
        rw [HY.out, List.take_of_length_le (Nat.le_of_eq HL.out)]
        exact h
      have HE := hide e
      clear e
      go_wp2
      go_ret
      exact ⟨by rw [← HE.out]; rfl, _, rfl⟩

set_option maxRecDepth 100000 in
set_option maxHeartbeats 800000 in
theorem sealed_any (v : Value) (n : Nat) (bs : List UInt8) (base : Nat) (w : World) (hl : bs.length = n) (ho : Own w base 5 1 v n (by8 bs)) (hb : n ≤ 140737488350000) (hB : base ≤ w.heap.size) :
    Calls Try.prog 29 #[v] w (fun en w' => ∃ v', en = .returned v' ∧ Own w' base 5 1 v' (n + 4) (by8 (bs ++ fourB (crcOf bs))) ∧ Fr (fun k => v.ownBlock = some k) w w') := by
  obtain ⟨i0, hi, hz, hsz, hby⟩ := info_parts Try.info5
  obtain ⟨A, c, rfl, hq1, hq2, _, hq3, _⟩ := ho.form
  have HS := hide (refSum_any A n c _ bs w hl hq1 hq2 hq3)
  have hcr := crcOf_lt bs
  generalize crcOf bs = cr at HS hcr
  have O := hide ho
  clear ho hq3
  unfold maxLen at hq2
  have b4 : (n + 4) * 1 ≤ 140737488355328 := by omega
  have b5 : n + 4 ≤ maxLen := by unfold maxLen; omega
  go_enter Try.func29, Try.ntmps29
  go_wp2_with (first
    | (go_at_call 14; refine HS.out.mono ?_; rintro en w1 ⟨rfl, nq, rfl⟩)
    | (at_builtin; refine wpList_append_gen _ rfl (.tmp 6) (.tmp 18) 23 23 rfl base 5 i0 (.int .u8 0) 1 1 Try.underlying23 hi hz hsz hby rfl _ n (by8 bs) rfl (O.out.fr0 (((Fr.refl _ _).drewN nq).alloc _)) _ 4 (by8 (fourB cr)) rfl (lit_src (w.drewN nq) _ 4 (fourB cr) (four_cells cr hcr) rfl) b4 b5 (by simp; omega) ?_; intro v2 w2 hown hfr hat; have O2 := hide hown; have F2 := hide hfr; clear hown hfr hat))
  go_ret
  refine ⟨_, rfl, by rw [by8_append]; exact O2.out, ?_⟩
  refine Fr.trans (T := fun k => (Value.slice A n c).ownBlock = some k) (((Fr.refl _ w).drewN nq).alloc _) F2.out (fun _ _ h => h)
end Go.Proofs.Ytapfbjaopbcgjaa
