/- Width, size, bit, and the document's Width. -/
import Derived.Test.YtpnhnnhocekchaaPackP
import Derived.Lib.BitFns
import Derived.Deep.Light
namespace Go.Proofs.Ytpnhnnhocekchaa
set_option linter.unusedVariables false
set_option linter.unusedSimpArgs false
open Go.RowKit

theorem len8_cl (k : Nat) (y : Int) (n : Nat) (h : y.toNat < Lib.len8tab.size) (h0 : 0 ≤ y) (hk : k ≤ 56) (hn : n = k + Lib.bitLen y.toNat) : wrap64 ((k : Int) + wrap64 ((Lib.len8tab[y.toNat]'h).toNat : Int)) = n := by
  have e : ((Lib.len8tab[y.toNat]'h).toNat : Int) = Lib.len8 y := by
    unfold Lib.len8
    rw [getElem?_pos Lib.len8tab y.toNat h]
    rfl
  rw [Lib.len8tab_size] at h
  have l := Lib.bitLen_le8' y h0 (by omega)
  rw [e, Lib.len8_of y h0 (by omega)]
  unfold wrap64
  omega
theorem len8_c0 (y : Int) (n : Nat) (h : y.toNat < Lib.len8tab.size) (h0 : 0 ≤ y) (hn : n = Lib.bitLen y.toNat) : wrap64 (wrap64 ((Lib.len8tab[y.toNat]'h).toNat : Int)) = n := by
  have := len8_cl 0 y n h h0 (by omega) (by omega)
  simpa using this

set_option maxHeartbeats 4000000 in
set_option maxRecDepth 100000 in
theorem len64_int (x : Int) (w : World) (h0 : 0 ≤ x) (h1 : x ≤ 18446744073709551615) :
    Calls Try.prog 55 #[.int .u64 x] w fun e w' => e = .returned (.int .i64 (Lib.bitLen x.toNat)) ∧ w' = w := by
  go_enter Try.func55, Try.ntmps55
  go_wp2
  all_goals first
    | (go_ret; refine ⟨congrArg Ending.returned (congrArg (Value.int IntKind.i64) ?_), rfl⟩; go_light)
    | (exfalso; go_light; have hs := Lib.len8tab_size; omega)
  all_goals first
    | (have e : (x / 4294967296 / 65536 / 256).toNat = x.toNat / 72057594037927936 := by omega
       have s := Lib.bitLen_shift56 x.toNat (by omega) (by omega)
       exact len8_cl 56 (x / 4294967296 / 65536 / 256) _ _ (by omega) (by decide) (by rw [e]; exact s))
    | (have e : (x / 4294967296 / 65536).toNat = x.toNat / 281474976710656 := by omega
       have s := Lib.bitLen_shift48 x.toNat (by omega) (by omega)
       exact len8_cl 48 (x / 4294967296 / 65536) _ _ (by omega) (by decide) (by rw [e]; exact s))
    | (have e : (x / 4294967296 / 256).toNat = x.toNat / 1099511627776 := by omega
       have s := Lib.bitLen_shift40 x.toNat (by omega) (by omega)
       exact len8_cl 40 (x / 4294967296 / 256) _ _ (by omega) (by decide) (by rw [e]; exact s))
    | (have e : (x / 4294967296).toNat = x.toNat / 4294967296 := by omega
       have s := Lib.bitLen_shift32 x.toNat (by omega) (by omega)
       exact len8_cl 32 (x / 4294967296) _ _ (by omega) (by decide) (by rw [e]; exact s))
    | (have e : (x / 65536 / 256).toNat = x.toNat / 16777216 := by omega
       have s := Lib.bitLen_shift24 x.toNat (by omega) (by omega)
       exact len8_cl 24 (x / 65536 / 256) _ _ (by omega) (by decide) (by rw [e]; exact s))
    | (have e : (x / 65536).toNat = x.toNat / 65536 := by omega
       have s := Lib.bitLen_shift16 x.toNat (by omega) (by omega)
       exact len8_cl 16 (x / 65536) _ _ (by omega) (by decide) (by rw [e]; exact s))
    | (have e : (x / 256).toNat = x.toNat / 256 := by omega
       have s := Lib.bitLen_shift8 x.toNat (by omega) (by omega)
       exact len8_cl 8 (x / 256) _ _ (by omega) (by decide) (by rw [e]; exact s))
    | exact len8_c0 x _ _ (by omega) rfl
    | (have := len8_cl 0 x _ ‹_› (by omega) (by decide) (Nat.zero_add _).symm; simpa using this)
theorem len64_any (x : Nat) (w : World) (h : x < 18446744073709551616) : Calls Try.prog 55 #[.int .u64 (x : Nat)] w (Ret (.int .i64 (Lib.bitLen x : Nat)) w) :=
  (len64_int x w (by omega) (by omega)).mono fun e w' ⟨h1, h2⟩ => ⟨by rw [h1]; simp, h2.symm⟩
end Go.Proofs.Ytpnhnnhocekchaa
namespace Go.Proofs.Ytpnhnnhocekchaa
set_option linter.unusedVariables false
set_option linter.unusedSimpArgs false
open Go.RowKit

set_option maxRecDepth 100000 in
set_option maxHeartbeats 400000 in
theorem size_any (a b : Nat) (w : World) (h : a * b ≤ 4611686018427387904) : Calls Try.prog 53 #[.int .i64 (a : Nat), .int .i64 (b : Nat)] w (Ret (.int .i64 (psz a b : Nat)) w) := by
  have e : (a : Int) * (b : Int) = ((a * b : Nat) : Int) := by simp
  have e2 : (((a * b : Nat) : Int) + 7) / 8 = ((psz a b : Nat) : Int) := by unfold psz; omega
  generalize psz a b = p at e2 ⊢
  generalize a * b = m at h e e2
  go_enter Try.func53, Try.ntmps53
  go_wp2_with (rw [e])
  go_ret
  exact ⟨by rw [← e2]; rfl, rfl⟩

set_option maxRecDepth 100000 in
set_option maxHeartbeats 800000 in
theorem width_any (A : Option Addr) (n c B : Nat) (l : List Nat) (w : World) (hl : l.length = n) (hi : In64 l) (hn : n ≤ c) (hc : c ≤ maxLen) (hr : Rd w B A (nz l)) :
    Calls Try.prog 21 #[.slice A n c] w (Ret (.int .i64 (wid l : Nat)) w) := by
  unfold maxLen at hc
  have HR := hide hr
  have HL := hide hl
  have HI := hide hi
  have HE := hide (fun w => len64_any (orL l) w (orL_64 hi))
  rw [orL_wid hi] at HE
  clear hr hl hi
  go_enter Try.func21, Try.ntmps21
  go_wp2
  go_loop [3, 5, 8] (fun s u i => ∃ k y : Nat, k ≤ n ∧ i = .int .i64 k ∧ s = .int .u64 (y : Nat) ∧ Hid (y = orL (l.take k))) (fun _ _ i => n - (intOf i).toNat)
  case atStart => exact ⟨0, 0, by omega, rfl, rfl, hide rfl⟩
  case round =>
    obtain ⟨k, y, hk, rfl, rfl, HY⟩ := hrel
    by_cases hlt : k < n
    · have h1 : k < l.length := by rw [HL.out]; exact hlt
      obtain ⟨ad, rfl, _, hcell⟩ := HR.out.natAt h1
      have hx := HI.out.at k
      have hy : y < 18446744073709551616 := by rw [HY.out]; exact orL_take HI.out k
      have HS := hide (show y ||| l.getD k 0 = orL (l.take (k + 1)) by rw [take_snocN h1, orL_snoc, HY.out])
      generalize l.getD k 0 = x at hcell hx HS
      have HB := hide (u64_or_nat y x hy hx)
      clear h1
      go_wp2
      go_round
      case rel => exact ⟨k + 1, y ||| x, by omega, by go_num, by rw [HB.out], HS⟩
      case measure => simp [intOf]; omega
    · obtain rfl : k = n := by omega
      have HT := hide (show y = orL l by rw [HY.out, ← HL.out, List.take_length])
      rw [← HT.out] at HE
      clear hlt
      go_wp2_with (go_at_call 55; refine (HE.out _).mono ?_; rintro en w' ⟨rfl, rfl⟩)
      go_ret
      exact ⟨rfl, rfl⟩

/-- is a number beyond so many bits? -/
theorem shr_ne (x k : Nat) : (((x : Int) / 2 ^ k) != 0) = decide (2 ^ k ≤ x) := by
  have e : ((x : Int) / 2 ^ k) = ((x / 2 ^ k : Nat) : Int) := by simp
  rw [e]
  have hp : 0 < 2 ^ k := Nat.two_pow_pos k
  by_cases h : 2 ^ k ≤ x
  · have : x / 2 ^ k ≠ 0 := by
      have := Nat.div_pos h hp
      omega
    rw [decide_eq_true h]
    simp only [bne_iff_ne, ne_eq]
    omega
  · rw [decide_eq_false h, Nat.div_eq_of_lt (by omega)]
    rfl

end Go.Proofs.Ytpnhnnhocekchaa
