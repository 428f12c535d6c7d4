/- number: its walk. -/
import Derived.Test.YtpnhnnhocekchaaBase
namespace Go.Proofs.Ytpnhnnhocekchaa
set_option linter.unusedVariables false
set_option linter.unusedSimpArgs false
open Go.RowKit

theorem or_step {v g k : Nat} (hv : v < 2 ^ (7 * k)) (hk : k ≤ 9) (hg : g < 128) (h9 : k = 9 → g ≤ 1) :
    bits .or .u64 (v : Int) (IntKind.u64.wrap ((g : Int) * 2 ^ (7 * k))) = ((v + g * 2 ^ (7 * k) : Nat) : Int) := by
  have hlt : v + g * 2 ^ (7 * k) < 18446744073709551616 := by
    by_cases h : k = 9
    · subst h
      have := h9 rfl
      have e : (2 : Nat) ^ (7 * 9) = 9223372036854775808 := by decide
      rw [e] at hv ⊢
      omega
    · have := acc_lt hv hg
      have h2 : 2 ^ (7 * (k + 1)) ≤ 2 ^ 63 := Nat.pow_le_pow_right (by omega) (by omega)
      omega
  have e1 : (g : Int) * 2 ^ (7 * k) = ((g * 2 ^ (7 * k) : Nat) : Int) := by simp
  rw [e1, IntWalk.u64_in _ (by omega), u64_or_nat _ _ (by omega) (by omega), or_shift hv]

set_option maxRecDepth 100000 in
set_option maxHeartbeats 800000 in
theorem number_any (r : Value) (A : Option Addr) (n c B : Nat) (bs : List UInt8) (w : World) (hl : bs.length = n) (hn : n ≤ c) (hc : c ≤ maxLen) (hr : Rd w B A (by8 bs)) :
    Calls Try.prog 94 #[r, .slice A n c] w (Ret (numV (dec 0 0 bs)) w) := by
  unfold maxLen at hc
  have HR := hide hr; clear hr
  have HL := hide hl; clear hl
  by_cases h10 : n ≤ 10
  all_goals
    go_enter Try.func94, Try.ntmps94
    go_wp2
    go_loop [6, 16] (fun a i => ∃ k v : Nat, k ≤ n ∧ k ≤ 10 ∧ Hid (v < 2 ^ (7 * k)) ∧ i = .int .i64 k ∧ a = .int .u64 v ∧ Hid (dec 0 0 bs = dec k v (bs.drop k))) (fun _ i => n - (intOf i).toNat)
    case atStart => exact ⟨0, 0, by omega, by omega, hide (by decide), rfl, rfl, hide rfl⟩
    case round =>
      obtain ⟨k, v, hk, hk10, HV, rfl, rfl, HD⟩ := hrel
      by_cases hlt : k < n ∧ k < 10
      · obtain ⟨hlt, hlt10⟩ := hlt
        have hkl : k < bs.length := by rw [HL.out]; exact hlt
        obtain ⟨ad, rfl, _, hcell⟩ := HR.out.byte hkl
        have s1 := hide (@dec_bad9 bs k v hkl)
        have s2 := hide (@dec_stop bs k v hkl hlt10)
        have s3 := hide (@dec_bad0 bs k v hkl)
        have s4 := hide (@dec_more bs k v hkl hlt10)
        generalize bs.getD k 0 = b at hcell s1 s2 s3 s4
        have hg := and_127 b
        have hb := b.toNat_lt
        generalize b.toNat = x at hcell s1 s2 s3 s4 hg hb
        obtain ⟨g, hgd⟩ : ∃ g : Nat, g = x % 128 := ⟨_, rfl⟩
        rw [← hgd] at hg s1 s2 s4
        have hg1 : g < 128 := by omega
        have hb' : x < 256 := by omega
        clear hb
        have HG := hide hgd; clear hgd
        clear hkl
        have cases9 : (Hid (k = 9 ∧ 1 < g) ∧ ((k : Int) == 9) = true ∧ 1 < g) ∨ (Hid (¬ (k = 9 ∧ 1 < g)) ∧ ((k : Int) == 9) = true ∧ g ≤ 1) ∨ (Hid (¬ (k = 9 ∧ 1 < g)) ∧ ((k : Int) == 9) = false) := by
          by_cases h9 : k = 9
          · by_cases hg : 1 < g
            · exact .inl ⟨hide ⟨h9, hg⟩, by simp; omega, hg⟩
            · exact .inr (.inl ⟨hide (fun h => hg h.2), by simp; omega, by omega⟩)
          · exact .inr (.inr ⟨hide (fun h => h9 h.1), by simp; omega⟩)
        rcases cases9 with ⟨t9, t9b, tg⟩ | cases9
        · have HF := hide (HD.out.trans (s1.out t9.out))
          clear s1 s2 s3 s4
          go_wp2
          go_ret2
          exact ⟨by rw [HF.out]; rfl, rfl⟩
        · have ho := or_step HV.out (by omega) hg1 (by intro h9; rcases cases9 with ⟨_, _, h⟩ | ⟨_, h⟩ <;> first | exact h | (simp [h9] at h))
          have HV' := hide (acc_lt HV.out hg1)
          have t9 : ¬ (k = 9 ∧ 1 < g) := by rcases cases9 with ⟨h, _⟩ | ⟨h, _⟩ <;> exact h.out
          have z2 := hide (s2.out t9)
          have z4 := hide (s4.out t9)
          clear s2 s4 t9
          generalize v + g * 2 ^ (7 * k) = v' at ho HV' z2 z4
          clear HV s1
          rcases cases9 with ⟨t9, t9b, tg⟩ | ⟨t9, t9b⟩
          all_goals
            go_wp2
            · go_ret2
              exact ⟨by rw [HD.out, s3.out (by omega) (by omega)]; rfl, rfl⟩
            · go_ret2
              exact ⟨by rw [HD.out, z2.out (by omega) (by omega)]; simp [numV], rfl⟩
            · go_ret2
              exact ⟨by rw [HD.out, z2.out (by omega) (by omega)]; simp [numV], rfl⟩
            · go_round
              case rel => exact ⟨k + 1, v', by omega, by omega, HV', by go_num, rfl, hide (HD.out.trans (z4.out (by omega)))⟩
              case measure => simp [intOf]; omega
      · have HF := hide (HD.out.trans (dec_end (bs := bs) (k := k) (v := v) (by rw [HL.out]; omega)))
        go_wp2
        go_ret2
        exact ⟨by rw [HF.out]; rfl, rfl⟩

end Go.Proofs.Ytpnhnnhocekchaa
