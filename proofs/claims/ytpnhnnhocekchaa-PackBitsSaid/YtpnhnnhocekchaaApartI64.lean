/- The statements' own kit: rows of int64 that share no memory. -/
import Derived.Test.YtpnhnnhocekchaaApart8
import Derived.Test.YtpnhnnhocekchaaVals
namespace Go.Proofs.Ytpnhnnhocekchaa
set_option linter.unusedVariables false
set_option linter.unusedSimpArgs false
open Go.RowKit

theorem Try.infoEI64 : (Try.prog.info? 2).map (fun i => (i.zero, i.size, i.bytes)) = some (some (.int .i64 0), 1, 8) := by kernel_rfl
theorem Try.infoSI64 : (Try.prog.info? 41).map (fun i => (i.zero, i.size, i.bytes)) = some (some (.slice none 0 0), 1, 24) := by kernel_rfl
def mk1I64 (j n : Nat) : List Value := (List.range n).map fun k : Nat => .int .i64 (1000 * (j : Int) + (k : Int))
def mk2I64 (j : Nat) : List Value := (List.range 30).map fun k : Nat => .int .i64 (500000 + 1000 * (j : Int) + (k : Int))
theorem mk1I64_at {j n k : Nat} (h : k < n) : (mk1I64 j n)[k]? = some (.int .i64 (1000 * (j : Int) + (k : Int))) := by simp [mk1I64, List.getElem?_range h]
theorem mk2I64_at {j k : Nat} (h : k < 30) : (mk2I64 j)[k]? = some (.int .i64 (500000 + 1000 * (j : Int) + (k : Int))) := by simp [mk2I64, List.getElem?_range h]
theorem mk1I64_len (j n : Nat) : (mk1I64 j n).length = n := by simp [mk1I64]
theorem mk2I64_len (j : Nat) : (mk2I64 j).length = 30 := by simp [mk2I64]
section
variable (q m d : Nat) (A : Nat → Option Addr) (N C : Nat → Nat) (cs : Array Value) (W : World)
set_option maxRecDepth 100000 in
set_option maxHeartbeats 3200000 in
theorem apartI64_any (base : Nat) (Z : Nat → List Value) (hm : m ≤ 100000) (hN : ∀ j, j < m → N j ≤ 2097152) (hd : m ≤ d) (hd2 : d ≤ maxLen) (hq : W.heap[q]? = some (.cells cs 41 (0, 0))) (hcs : ∀ j, j < m → cs[j]? = some (.slice (A j) (N j) (C j)))
    (ho : Owns W base 2 m A N C Z) (ha : Apart m A N C) :
    Calls Try.prog 36 #[.slice (some ⟨q, 0, none⟩) m d] W (fun en w' => en = .returned (.bool true) ∧ Fr (Blocks m A N C) W w') := by
  unfold maxLen at hd2
  have HO := hide ho
  have HQ := hide hq
  have HCS := hide hcs
  have HN := hide hN
  have HA := hide ha
  clear ho hq hcs hN ha
  go_enter Try.func36, Try.ntmps36
  go_wp2
  go_loopw [3, 4] (fun i _ wr => ∃ (i' : Nat) (Z' : Nat → List Value), i' ≤ m ∧ i = .int .i64 i' ∧ Hid (Owns wr base 2 m A N C Z') ∧ Hid (∀ j, j < i' → Z' j = mk1I64 j (N j)) ∧ Hid (Fr (Blocks m A N C) W wr) ∧ Hid (wr.heap[q]? = some (.cells cs 41 (0, 0)))) (fun i _ _ => m - (intOf i).toNat)
  case atStart => exact ⟨0, Z, by omega, rfl, HO, hide (fun j h => by omega), hide (Fr.refl _ _), HQ⟩
  case round =>
    obtain ⟨i, Z1, hi, rfl, O1, M1, F1, Q1⟩ := hrel
    obtain ⟨wo, rfl⟩ : ∃ wo : World, wo = wr := ⟨_, rfl⟩
    by_cases hlt : i < m
    · have hNi := HN.out i hlt
      have HCI := hide (HCS.out i hlt)
      go_wp2
      go_loopw [4] (fun k' wr => ∃ (k : Nat) (Z' : Nat → List Value), k ≤ N i ∧ k' = .int .i64 k ∧ Hid (Owns wr base 2 m A N C Z') ∧ Hid (∀ j, j < i → Z' j = mk1I64 j (N j)) ∧ Hid ((Z' i).take k = (mk1I64 i (N i)).take k) ∧ Hid (Fr (Blocks m A N C) W wr) ∧ Hid (wr.heap[q]? = some (.cells cs 41 (0, 0)))) (fun k' _ => N i - (intOf k').toNat)
      case atStart => exact ⟨0, Z1, by omega, rfl, O1, M1, hide rfl, F1, Q1⟩
      case round =>
        obtain ⟨k, Z2, hk, rfl, O2, M2, T2, F2, Q2⟩ := hrel
        have hci := cell_of_row wr q i cs 41 (0, 0) Q2.out
        rw [HCI.out] at hci
        by_cases hkl : k < N i
        · obtain ⟨g, hAi, hgl, hcell, hfz, hne, hst⟩ := O2.out.store HA.out hlt hkl
          rw [hAi] at hci
          have HST := hide hst
          have HNE := hide (hne q cs _ _ Q2.out (by decide))
          clear hst hne
          obtain ⟨u0, hu0⟩ : ∃ u, (Z2 i)[k]? = some u := ⟨_, List.getElem?_eq_getElem (by have := (O2.out i hlt).1; omega)⟩
          rw [hu0] at hcell
          have HAi := hide hAi
          obtain ⟨v, hv⟩ : ∃ v : Int, v = 1000 * (i : Int) + (k : Int) := ⟨_, rfl⟩
          have ev : 1000 * (i : Int) + (k : Int) = v := hv.symm
          have hv0 : 0 ≤ v := by omega
          have hv1 : v ≤ 200000000 := by omega
          have HMk : Hid ((mk1I64 i (N i))[k]? = some (.int .i64 v)) := hide (by rw [hv]; exact mk1I64_at hkl)
          clear hv
          have HT := hide (take_set_snoc T2.out HMk.out (by have := (O2.out i hlt).1; omega))
          clear hAi hu0
          go_wp2
          go_roundw
          case rel => exact ⟨k + 1, _, by omega, by go_num, hide (HST.out _).1, hide (fun j hj => by rw [upd_other _ _ (by omega)]; exact M2.out j hj), hide (by rw [upd_same]; exact HT.out), hide (F2.out.ts (HST.out _).2), hide ((Fr.refl (Is g) wr).setCell (p := ⟨g, k, none⟩) (fun _ => rfl) _ |>.blk Q2.out (fun e => HNE.out e.symm))⟩
          case measure => simp [intOf]; omega
        · have hkN : k = N i := by omega
          go_wp2
          go_roundw
          case rel =>
            refine ⟨i + 1, Z2, by omega, by go_num, O2, hide (fun j hj => ?_), F2, Q2⟩
            by_cases hji : j = i
            · subst hji
              have h := T2.out
              rwa [List.take_of_length_le (by have := (O2.out j hlt).1; omega), List.take_of_length_le (by rw [mk1I64_len]; omega)] at h
            · exact M2.out j (by omega)
          case measure => simp [intOf]; omega
    · have O2 : Hid (∀ j, j < m → Own wo 0 2 1 (.slice (A j) (N j) (C j)) (N j) (mk1I64 j (N j))) := fun j hj => by
        have h := O1.out j hj
        rw [M1.out j (by omega)] at h
        exact h.lower (Nat.zero_le _)
      have LT : Hid (∀ j, j < m → ∀ k, (Value.slice (A j) (N j) (C j)).ownBlock = some k → k < W.heap.size) := fun j hj k hk => ((HO.out j hj).lt k hk).2
      have QW : Hid (q < W.heap.size) := (Array.getElem?_eq_some_iff.1 HQ.out).1
      have QN : Hid (∀ j, j < m → (Value.slice (A j) (N j) (C j)).ownBlock ≠ some q) := fun j hj hk => (HO.out j hj).ne_blk hk HQ.out (by decide)
      have hW := F1.out.size
      obtain ⟨i1, hi1, hz1, hs1, hb1⟩ := info_parts Try.infoEI64
      obtain ⟨i2, hi2, hz2, hs2, hb2⟩ := info_parts Try.infoSI64
      clear O1 M1 HO HQ
      go_wp2
      go_loopw [5, 6, 7, 8] (fun more i' _ _ wr => ∃ (i : Nat) (L : Nat → Value), i ≤ m ∧ i' = .int .i64 i ∧ Hid (Own wr W.heap.size 41 1 more i ((List.range i).map L))
          ∧ Hid (∀ j, i ≤ j → j < m → Own wr 0 2 1 (.slice (A j) (N j) (C j)) (N j) (mk1I64 j (N j)))
          ∧ Hid (∀ j, j < m → Rd wr W.heap.size (A j) (mk1I64 j (N j)))
          ∧ Hid (∀ j, j < i → Own wr 0 2 1 (L j) (N j + 30) (mk1I64 j (N j) ++ mk2I64 j))
          ∧ Hid (∀ j, j < i → ∀ j', i ≤ j' → j' < m → ∀ k, (Value.slice (A j') (N j') (C j')).ownBlock = some k → (L j).ownBlock ≠ some k)
          ∧ Hid (Fr (Blocks m A N C) W wr) ∧ Hid (wr.heap[q]? = some (.cells cs 41 (0, 0)))) (fun _ i _ _ _ => m - (intOf i).toNat)
      case atStart =>
        refine ⟨0, fun _ => undef, by omega, rfl, hide (Own.nil _ _ _ _), hide (fun j _ hj => O2.out j hj), hide (fun j hj => ?_), hide (fun j hj => by omega), hide (fun j hj => by omega), F1, Q1⟩
        have h := (O2.out j hj).rd
        intro x u hu
        obtain ⟨ad, e, hb, hc⟩ := h x u hu
        exact ⟨ad, e, LT.out j hj _ (by rw [e]; rfl), hc⟩
      case round =>
        obtain ⟨i, L, hi, rfl, OM, OV, RV, OL, DL, FW, QQ⟩ := hrel
        obtain ⟨wi, rfl⟩ : ∃ wi : World, wi = wr := ⟨_, rfl⟩
        clear hlt
        by_cases hlt : i < m
        · have hNi := HN.out i hlt
          have hci := cell_of_row wi q i cs 41 (0, 0) QQ.out
          rw [HCS.out i hlt] at hci
          have hWi := FW.out.size
          have AI := hide (OV.out i (Nat.le_refl _) hlt).mem
          go_wp2
          go_loopw [7, 8] (fun l k' wr => ∃ (k : Nat), k ≤ 30 ∧ k' = .int .i64 k ∧ Hid (Own wr 0 2 1 l (N i + k) (mk1I64 i (N i) ++ (mk2I64 i).take k))
              ∧ Hid (l.ownBlock = (Value.slice (A i) (N i) (C i)).ownBlock ∨ ∀ g, l.ownBlock = some g → wi.heap.size ≤ g)
              ∧ Hid (Rd wr W.heap.size (A i) (mk1I64 i (N i))) ∧ Hid (Fr (fun k => (Value.slice (A i) (N i) (C i)).ownBlock = some k) wi wr)) (fun _ k' _ => 30 - (intOf k').toNat)
          case atStart => exact ⟨0, by omega, rfl, hide (by simpa using OV.out i (Nat.le_refl _) hlt), hide (.inl rfl), hide (RV.out i hlt), hide (Fr.refl _ _)⟩
          case round =>
            obtain ⟨k, hk, rfl, I1, I2, I3, I4⟩ := hrel
            by_cases hkl : k < 30
            · obtain ⟨v, hv⟩ : ∃ v : Int, v = 500000 + 1000 * (i : Int) + (k : Int) := ⟨_, rfl⟩
              have ev : 500000 + 1000 * (i : Int) + (k : Int) = v := hv.symm
              have hv0 : 0 ≤ v := by omega
              have hv1 : v ≤ 200000000 := by omega
              have HMk : Hid ((mk2I64 i)[k]? = some (.int .i64 v)) := hide (by rw [hv]; exact mk2I64_at hkl)
              clear hv
              have HS := hide (Src.one (P := Try.prog) wr (e := 2) Try.underlying41 (.int .i64 v) rfl)
              have I1' := hide (I1.out.fr0 ((Fr.refl No wr).alloc (.cells #[.int .i64 v] 2)))
              have b1 : (N i + k + 1) * 8 ≤ 140737488355328 := by omega
              have b2 : N i + k + 1 ≤ maxLen := by unfold maxLen; omega
              go_wp2_with (at_builtin; refine wpList_append_two _ rfl (.tmp 52) (.tmp 58) 41 41 rfl 0 2 i1 (.int .i64 0) 1 8 Try.underlying41 hi1 hz1 hs1 hb1 rfl u7 (N i + k) _ rfl I1'.out _ 1 [.int .i64 v] rfl HS.out b1 b2 (Nat.zero_le _) ?_; intro v' w' hown hat; have ON := hide hown; have HAT := hide hat; clear hown hat)
              go_roundw
              case rel =>
                have h5 := ON.out
                rw [List.append_assoc, take_snoc_at HMk.out] at h5
                have h6 := apart_step hWi (LT.out i hlt) (by
                  rcases AI.out with ⟨h, h0⟩ | h
                  · exact .inl ⟨h, by rw [h0]; rfl⟩
                  · exact .inr h) I2.out I3.out I4.out h5 HAT.out
                exact ⟨k + 1, by omega, by go_num, hide h5, hide h6.1, hide h6.2.1, hide h6.2.2⟩
              case measure => simp [intOf]; omega
            · obtain rfl : k = 30 := by omega
              obtain ⟨Al, cl, rfl, hl1, hl2, _⟩ := I1.out.form
              have HS := hide (Src.one (P := Try.prog) wr (e := 41) Try.underlying50 (.slice Al (N i + 30) cl) rfl)
              have FO : Hid (Fr (fun k => (Value.slice (A i) (N i) (C i)).ownBlock = some k) wi (wr.alloc (.cells #[.slice Al (N i + 30) cl] 41))) := I4.out.alloc _
              have OM' : Hid (Own (wr.alloc (.cells #[.slice Al (N i + 30) cl] 41)) W.heap.size 41 1 u5 i ((List.range i).map L)) := OM.out.fr FO.out (fun g hg hk => by
                have := (OM.out.lt g hg).1
                have := LT.out i hlt g hk
                omega)
              have b1 : (i + 1) * 24 ≤ 140737488355328 := by omega
              have b2 : i + 1 ≤ maxLen := by unfold maxLen; omega
              have b3 : W.heap.size ≤ (wr.alloc (.cells #[.slice Al (N i + 30) cl] 41)).heap.size := Nat.le_trans hWi FO.out.size
              go_wp2_with (at_builtin; refine wpList_append_gen _ rfl (.tmp 60) (.tmp 62) 50 50 rfl W.heap.size 41 i2 (.slice none 0 0) 1 24 Try.underlying50 hi2 hz2 hs2 hb2 rfl u5 i _ rfl OM'.out _ 1 [.slice Al (N i + 30) cl] rfl HS.out b1 b2 b3 ?_; intro v' w' hown hfr hat; have ON := hide hown; have FN := hide hfr; clear hown hfr hat)
              go_roundw
              case rel =>
                have hmw : ∀ g, u5.ownBlock = some g → W.heap.size ≤ g := fun g hg => (OM'.out.lt g hg).1
                have hl : Own (wr.alloc (.cells #[.slice Al (N i + 30) cl] 41)) 0 2 1 (.slice Al (N i + 30) cl) (N i + 30) (mk1I64 i (N i) ++ mk2I64 i) := by
                  have h := I1.out
                  rw [List.take_of_length_le (by rw [mk2I64_len]; omega)] at h
                  exact h.fr0 ((Fr.refl No wr).alloc _)
                refine ⟨i + 1, updV L i (.slice Al (N i + 30) cl), by omega, by go_num, hide (by rw [← map_snoc]; exact ON.out), hide ?_, hide ?_, hide ?_, hide ?_, hide ?_, hide ?_⟩
                · intro j hij hj
                  refine ((OV.out j (by omega) hj).fr FO.out ?_).fr FN.out ?_
                  · intro g hg hk
                    exact HA.out.dis i j hlt hj (by omega) g hk hg
                  · intro g hg hk
                    have := LT.out j hj g hg
                    have := hmw g hk
                    omega
                · intro j hj
                  have h1 : Rd (wr.alloc (.cells #[.slice Al (N i + 30) cl] 41)) W.heap.size (A j) (mk1I64 j (N j)) := by
                    by_cases hji : j = i
                    · subst hji
                      exact I3.out.fr0 ((Fr.refl No wr).alloc _)
                    · refine (RV.out j hj).fr2 FO.out ?_
                      intro ad had hk
                      exact HA.out.dis i j hlt hj (fun e => hji e.symm) _ hk (by rw [had]; rfl)
                  refine h1.fr2 FN.out ?_
                  intro ad had hk
                  have := LT.out j hj ad.block (by rw [had]; rfl)
                  have := hmw _ hk
                  omega
                · intro j hj
                  by_cases hji : j = i
                  · subst hji
                    rw [updV_same]
                    exact hl.fr FN.out (fun g hg hk => hl.ne_own OM'.out (by decide) hk hg)
                  · rw [updV_other _ _ hji]
                    have h1 := (OL.out j (by omega)).fr FO.out (fun g hg hk => DL.out j (by omega) i (Nat.le_refl _) hlt g hk hg)
                    exact h1.fr FN.out (fun g hg hk => h1.ne_own OM'.out (by decide) hk hg)
                · intro j hj j' hij hj' k hk
                  by_cases hji : j = i
                  · subst hji
                    rw [updV_same]
                    rcases I2.out with h2 | h2
                    · rw [h2]
                      exact fun h => HA.out.dis j j' hlt hj' (by omega) k h hk
                    · intro h
                      have := h2 k h
                      have := LT.out j' hj' k hk
                      omega
                  · rw [updV_other _ _ hji]
                    exact DL.out j (by omega) j' (by omega) hj' k hk
                · refine (FW.out.trans FO.out (fun k _ hk => ⟨i, hlt, hk⟩)).trans FN.out ?_
                  intro k hk h
                  have := hmw k h
                  omega
                · refine FN.out.blk (FO.out.blk QQ.out (QN.out i hlt)) ?_
                  intro h
                  have := hmw q h
                  have := QW.out
                  omega
              case measure => simp [intOf]; omega
        · obtain rfl : m = i := by omega
          clear DL OV hW LT QW QN
          obtain ⟨AM, cM, rfl, hM1, hM2, _, hMR, _⟩ := OM.out.form
          unfold maxLen at hM2
          have MR := hide hMR
          clear hMR OM
          go_wp2
          go_loop [9, 10, 11, 12] (fun i' _ _ _ => ∃ i : Nat, i ≤ m ∧ i' = .int .i64 i) (fun i' _ _ _ => m - (intOf i').toNat)
          case atStart => exact ⟨0, by omega, rfl⟩
          case round =>
            obtain ⟨i, hi2', rfl⟩ := hrel
            clear hlt
            by_cases hlt : i < m
            · have hNi := HN.out i hlt
              have hci := cell_of_row wi q i cs 41 (0, 0) QQ.out
              rw [HCS.out i hlt] at hci
              obtain ⟨Al, cl, hLi, hl1, hl2, _, hLR, _⟩ := (OL.out i hlt).form
              unfold maxLen at hl2
              obtain ⟨am, rfl, _, hmc⟩ := MR.out i (L i) (by simp [List.getElem?_range hlt])
              rw [hLi] at hmc
              have LR := hide hLR
              clear hLR hLi
              go_wp2
              go_loop [11] (fun k' => ∃ k : Nat, k ≤ N i ∧ k' = .int .i64 k) (fun k' => N i - (intOf k').toNat)
              case atStart => exact ⟨0, by omega, rfl⟩
              case round =>
                obtain ⟨k, hk, rfl⟩ := hrel
                by_cases hkl : k < N i
                · obtain ⟨v, hv⟩ : ∃ v : Int, v = 1000 * (i : Int) + (k : Int) := ⟨_, rfl⟩
                  have ev : 1000 * (i : Int) + (k : Int) = v := hv.symm
                  have hv0 : 0 ≤ v := by omega
                  have hv1 : v ≤ 200000000 := by omega
                  have HMk : Hid ((mk1I64 i (N i))[k]? = some (.int .i64 v)) := hide (by rw [hv]; exact mk1I64_at hkl)
                  clear hv
                  obtain ⟨ad, hAi, _, hc1⟩ := RV.out i hlt k _ HMk.out
                  obtain ⟨bd, rfl, _, hc2⟩ := LR.out k (.int .i64 v) (by rw [List.getElem?_append_left (by rw [mk1I64_len]; exact hkl)]; exact HMk.out)
                  rw [hAi] at hci
                  have hb : (v != v) = false := by simp
                  clear hAi
                  go_wp2
                  go_round
                  case rel => exact ⟨k + 1, by omega, by go_num⟩
                  case measure => simp [intOf]; omega
                · go_wp2
                  go_loop [12] (fun k' => ∃ k : Nat, k ≤ 30 ∧ k' = .int .i64 k) (fun k' => 30 - (intOf k').toNat)
                  case atStart => exact ⟨0, by omega, rfl⟩
                  case round =>
                    clear hkl hk
                    obtain ⟨k, hk, rfl⟩ := hrel
                    by_cases hkl : k < 30
                    · obtain ⟨v, hv⟩ : ∃ v : Int, v = 500000 + 1000 * (i : Int) + (k : Int) := ⟨_, rfl⟩
                      have ev : 500000 + 1000 * (i : Int) + (k : Int) = v := hv.symm
                      have hv0 : 0 ≤ v := by omega
                      have hv1 : v ≤ 200000000 := by omega
                      have HMk : Hid ((mk2I64 i)[k]? = some (.int .i64 v)) := hide (by rw [hv]; exact mk2I64_at hkl)
                      clear hv
                      obtain ⟨bd, rfl, _, hc2⟩ := LR.out (N i + k) (.int .i64 v) (by
                        rw [List.getElem?_append_right (by rw [mk1I64_len]; omega), mk1I64_len, Nat.add_sub_cancel_left]
                        exact HMk.out)
                      have hb : (v != v) = false := by simp
                      have t1 : ((N i : Int) + (k : Int)).toNat = N i + k := by omega
                      go_wp2
                      go_round
                      case rel => exact ⟨k + 1, by omega, by go_num⟩
                      case measure => simp [intOf]; omega
                    · go_wp2
                      go_round
                      case rel => exact ⟨i + 1, by omega, by go_num⟩
                      case measure => simp [intOf]; omega
            · go_wp2
              go_ret
              exact ⟨rfl, FW.out⟩
end
end Go.Proofs.Ytpnhnnhocekchaa
