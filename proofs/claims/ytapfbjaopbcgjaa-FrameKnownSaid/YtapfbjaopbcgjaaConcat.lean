/- slices.Grow onto nil, slices.Concat at bytes; a check's four bytes. Condition: all bytes together are at most 2^47 - 5328. -/
import Derived.Test.YtapfbjaopbcgjaaSumW
import Derived.Test.YtapfbjaopbcgjaaSealP
import Derived.Lib.AppendZerosOnto
import Derived.Lib.SliceRun
namespace Go.Proofs.Ytapfbjaopbcgjaa
set_option linter.unusedVariables false
set_option linter.unusedSimpArgs false
open Go.RowKit

def GivesO (w : World) (en : Ending) (w' : World) : Prop := ∃ v, en = .returned v ∧ Own w' w.heap.size 5 1 v 0 [] ∧ Fr No w w'

set_option maxRecDepth 100000 in
set_option maxHeartbeats 400000 in
theorem grow_nil (n : Nat) (w : World) (hn : n ≤ 140737488350000) : Calls Try.prog 42 #[.slice none 0 0, .int .i64 (n : Nat)] w (GivesO w) := by
  by_cases h0 : n = 0
  · subst h0
    go_enter Try.func42, Try.ntmps42
    go_wp2
    go_ret
    exact ⟨_, rfl, Own.nil _ _ _ _, Fr.refl _ _⟩
  · obtain ⟨i0, hi, hz, hsz, hby⟩ := info_parts Try.info5
    have hrz : ∀ ty, (Builtin.append_ #[23, 3] ty #[.slice none 0 0, .int .i64 (n : Nat)]).run Try.prog w = _ := fun ty =>
      Lib.run_append_grow_zeros w 23 3 ty 5 i0 (.int .u8 0) .i64 .i64 Try.underlying23 Try.underlying3 hi hz none 0 0 [] (run_firstCells_none w.drew i0.size 0 0 0) n (by omega) (by omega) (by omega) (by omega)
        (by rw [hby]; omega) (growslice_fits (by omega) (by rw [hby]; omega))
    simp only [Nat.zero_add] at hrz
    have hG := grownCap_ge w n 0 5
    have hG2 := grownCap_le_maxLen w n 0 5 (by unfold maxLen; omega)
    generalize grownCap w n 0 5 = G at hrz hG hG2
    have HN := hide (show Own (w.drew.alloc (.cells (([] : List Value).toArray ++ Builtin.zeroCells (Value.int .u8 0).cells n ++ Builtin.zeroCells (Value.int .u8 0).cells (G - n)) 5)) w.heap.size 5 1 (.slice (some ⟨w.heap.size, 0, none⟩) 0 G) 0 [] from
      ⟨rfl, _, G, rfl, Nat.zero_le _, hG2, .inr ⟨w.heap.size, _, rfl, Nat.le_refl _, heap_alloc_new w.drew _, by simp [size_zeroCells, Value.cells]; omega, by simp⟩⟩)
    unfold maxLen at hG2
    generalize ([] : List Value).toArray ++ Builtin.zeroCells (Value.int .u8 0).cells n ++ Builtin.zeroCells (Value.int .u8 0).cells (G - n) = cs at hrz HN
    go_enter Try.func42, Try.ntmps42
    go_wp2_with (at_builtin; refine Lib.wpList_append_run _ rfl _ _ _ _ rfl _ _ rfl rfl _ _ (hrz _) ?_)
    go_ret
    exact ⟨_, rfl, HN.out, (Fr.refl _ _).drew.alloc _⟩

set_option maxRecDepth 100000 in
set_option maxHeartbeats 800000 in
theorem concat_any (A : Option Addr) (n c B : Nat) (bss : List (List UInt8)) (w : World) (hl : bss.length = n) (hn : n ≤ c) (hc : c ≤ maxLen) (hB : B ≤ w.heap.size) (hr : BSl w B A bss) (hb : bss.flatten.length ≤ 140737488350000) :
    Calls Try.prog 25 #[.slice A n c] w (GivesB w bss.flatten) := by
  unfold maxLen at hc
  have HR := hide hr
  have HL := hide hl
  have HLe := hide (flat_le bss)
  clear hr hl
  obtain ⟨i0, hi, hz, hsz, hby⟩ := info_parts Try.info5
  obtain ⟨T, hT⟩ : ∃ T, T = bss.flatten.length := ⟨_, rfl⟩
  rw [← hT] at HLe hb
  have HTT := hide hT
  clear hT
  go_enter Try.func25, Try.ntmps25
  go_wp2
  go_loopw [3, 11] (fun s i wr => ∃ (k x nq : Nat), k ≤ n ∧ x ≤ T ∧ i = .int .i64 k ∧ s = .int .i64 (x : Nat) ∧ Hid (x = (bss.take k).flatten.length) ∧ wr = w.drewN nq) (fun _ i _ => n - (intOf i).toNat)
  case atStart => exact ⟨0, 0, 0, by omega, by omega, rfl, rfl, hide rfl, rfl⟩
  case round =>
    obtain ⟨k, x, nq, hk, hxT, rfl, rfl, HX, rfl⟩ := hrel
    by_cases hlt : k < n
    · obtain ⟨bs, hx⟩ : ∃ bs, bss[k]? = some bs := ⟨_, List.getElem?_eq_getElem (by rw [HL.out]; exact hlt)⟩
      obtain ⟨ad, Aj, cj, rfl, _, hcell, hj1, hj2, _⟩ := HR.out k bs hx
      have HN := hide (flat_succ hx)
      obtain ⟨m, hm⟩ : ∃ m, m = bs.length := ⟨_, rfl⟩
      have hTm : x + m ≤ T := by
        have := HLe.out (k + 1)
        rw [HN.out, List.length_append, ← HX.out, ← hm] at this
        exact this
      rw [← hm] at hcell hj1
      have HM := hide hm
      unfold maxLen at hj2
      clear hx hm
      go_wp2
      go_roundw
      case rel => exact ⟨k + 1, x + m, _, by omega, by omega, by go_num, by go_num, hide (by rw [HN.out, List.length_append, ← HX.out, ← HM.out]), rfl⟩
      case measure => simp [intOf]; omega
    · obtain rfl : k = n := by omega
      go_wp2_with (go_at_call 42; refine (grow_nil _ _ (by omega)).mono ?_; rintro en w1 ⟨v0, rfl, hown, hfr⟩; have O1 := hide hown; have F1 := hide hfr; clear hown hfr)
      clear hlt hk
      go_loopw [6, 27] (fun v i wr => ∃ (j : Nat) (dn : List UInt8), j ≤ k ∧ i = .int .i64 j ∧ Hid (dn = (bss.take j).flatten) ∧ Hid (Own wr w.heap.size 5 1 v dn.length (by8 dn)) ∧ Hid (Fr No w wr)) (fun _ i _ => k - (intOf i).toNat)
      case atStart => exact ⟨0, [], by omega, rfl, hide rfl, O1, hide ((Fr.refl _ _).drewN _ |>.tr F1.out)⟩
      case round =>
        clear O1 F1
        obtain ⟨j, dn, hj, rfl, HD, OW, FW⟩ := hrel
        by_cases hlt : j < k
        · obtain ⟨bs, hx⟩ : ∃ bs, bss[j]? = some bs := ⟨_, List.getElem?_eq_getElem (by rw [HL.out]; exact hlt)⟩
          obtain ⟨ad, Aj, cj, rfl, _, hcell, hj1, hj2, hrj⟩ := (HR.out.fr0 FW.out) j bs hx
          have HN := hide (flat_succ hx)
          have hb2 : dn.length + bs.length ≤ T := by
            have := HLe.out (j + 1)
            rw [HN.out, List.length_append, ← HD.out] at this
            exact this
          have HS := hide (Src.ofRd (P := Try.prog) (size := 1) wr Try.underlying23 Aj bs.length cj (by8 bs) (by rw [by8_length]; omega) (by omega) hrj (by8_one _))
          obtain ⟨nx, HNX⟩ : ∃ nx, Hid (nx = dn ++ bs) := ⟨_, hide rfl⟩
          have HLn := hide (show nx.length = dn.length + bs.length by rw [HNX.out, List.length_append])
          have HNE := hide (show nx = (bss.take (j + 1)).flatten by rw [HNX.out, HN.out, HD.out])
          have HB8 := hide (show by8 dn ++ by8 bs = by8 nx by rw [HNX.out, by8_append])
          obtain ⟨m, hm⟩ : ∃ m, m = bs.length := ⟨_, rfl⟩
          rw [← hm] at hcell hj1 hb2 HS HLn
          obtain ⟨d, hd⟩ : ∃ d, d = dn.length := ⟨_, rfl⟩
          rw [← hd] at hb2 HLn OW
          unfold maxLen at hj2
          clear hx hm hd hrj
          have b1 : (d + m) * 1 ≤ 140737488355328 := by omega
          have b2 : d + m ≤ maxLen := by unfold maxLen; omega
          have hW := FW.out.size
          go_wp2_with (at_builtin; refine wpList_append_gen _ rfl _ _ 23 23 rfl w.heap.size 5 i0 (.int .u8 0) 1 1 Try.underlying23 hi hz hsz hby rfl _ d (by8 dn) rfl OW.out _ m (by8 bs) rfl HS.out b1 b2 hW ?_; intro v2 w2 hown hfr hat; have O2 := hide hown; have F2 : Hid (Fr No w w2) := hide (FW.out.own hfr (fun g hg => .inl (OW.out.lt g hg).1)); clear hown hfr hat)
          go_roundw
          case rel => exact ⟨j + 1, nx, by omega, by go_num, HNE, hide (by rw [HLn.out, ← HB8.out]; exact O2.out), F2⟩
          case measure => simp [intOf]; omega
        · obtain rfl : k = j := by omega
          have HE := hide (show dn = bss.flatten by rw [HD.out, List.take_of_length_le (Nat.le_of_eq HL.out)])
          go_wp2
          go_ret
          exact ⟨_, rfl, by rw [← HE.out]; exact OW.out, FW.out⟩
end Go.Proofs.Ytapfbjaopbcgjaa
