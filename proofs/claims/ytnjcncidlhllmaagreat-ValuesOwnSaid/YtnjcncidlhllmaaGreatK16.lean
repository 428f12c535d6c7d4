/- Several texts in one: ApartI64, ApartInt, Txt4, ApartS, ApVals, OwnP. -/
import Derived.Test.YtnjcncidlhllmaaGreatK15
import Derived.Deep.RegionHeld3
namespace Go.Proofs.YtnjcncidlhllmaaGreat
set_option linter.unusedVariables false
set_option linter.unusedSimpArgs false
open Go.RowKit

theorem Tryz.infoEI64 : (Tryz.prog.info? 2).map (fun i => (i.zero, i.size, i.bytes)) = some (some (.int .i64 0), 1, 8) := by kernel_rfl
theorem Tryz.infoSI64 : (Tryz.prog.info? 41).map (fun i => (i.zero, i.size, i.bytes)) = some (some (.slice none 0 0), 1, 24) := by kernel_rfl
def mk1I64 (j n : Nat) : List Value := (List.range n).map fun k : Nat => .int .i64 (1000 * (j : Int) + (k : Int))
def mk2I64 (j : Nat) : List Value := (List.range 30).map fun k : Nat => .int .i64 (500000 + 1000 * (j : Int) + (k : Int))
theorem mk1I64_at {j n k : Nat} (h : k < n) : (mk1I64 j n)[k]? = some (.int .i64 (1000 * (j : Int) + (k : Int))) := by simp [mk1I64, List.getElem?_range h]
theorem mk2I64_at {j k : Nat} (h : k < 30) : (mk2I64 j)[k]? = some (.int .i64 (500000 + 1000 * (j : Int) + (k : Int))) := by simp [mk2I64, List.getElem?_range h]
theorem mk1I64_len (j n : Nat) : (mk1I64 j n).length = n := by simp [mk1I64]
theorem mk2I64_len (j : Nat) : (mk2I64 j).length = 30 := by simp [mk2I64]
section
variable (q m d : Nat) (A : Nat → Option Addr) (N C : Nat → Nat) (cs : Array Value) (W : World)
set_option maxRecDepth 100000 in
set_option maxHeartbeats 3200000 in
theorem apartI64_any (base : Nat) (Z : Nat → List Value) (hm : m ≤ 100000) (hN : ∀ j, j < m → N j ≤ 2097152) (hd : m ≤ d) (hd2 : d ≤ maxLen) (hq : W.heap[q]? = some (.cells cs 41 (0, 0))) (hcs : ∀ j, j < m → cs[j]? = some (.slice (A j) (N j) (C j)))
    (ho : Owns W base 2 m A N C Z) (ha : Apart m A N C) :
    Calls Tryz.prog 20 #[.slice (some ⟨q, 0, none⟩) m d] W (fun en w' => en = .returned (.bool true) ∧ Fr (Blocks m A N C) W w') := by
  unfold maxLen at hd2
  have HO := hide ho
  have HQ := hide hq
  have HCS := hide hcs
  have HN := hide hN
  have HA := hide ha
  clear ho hq hcs hN ha
  go_enter Tryz.func20, Tryz.ntmps20
  go_wp2
  go_loopw [3, 4] (fun i _ wr => ∃ (i' : Nat) (Z' : Nat → List Value), i' ≤ m ∧ i = .int .i64 i' ∧ Hid (Owns wr base 2 m A N C Z') ∧ Hid (∀ j, j < i' → Z' j = mk1I64 j (N j)) ∧ Hid (Fr (Blocks m A N C) W wr) ∧ Hid (wr.heap[q]? = some (.cells cs 41 (0, 0)))) (fun i _ _ => m - (intOf i).toNat)
  case atStart => exact ⟨0, Z, by omega, rfl, HO, hide (fun j h => by omega), hide (Fr.refl _ _), HQ⟩
  case round =>
    obtain ⟨i, Z1, hi, rfl, O1, M1, F1, Q1⟩ := hrel
    obtain ⟨wo, rfl⟩ : ∃ wo : World, wo = wr := ⟨_, rfl⟩
    by_cases hlt : i < m
    · have hNi := HN.out i hlt
      have HCI := hide (HCS.out i hlt)
      go_wp2
      go_loopw [4] (fun k' wr => ∃ (k : Nat) (Z' : Nat → List Value), k ≤ N i ∧ k' = .int .i64 k ∧ Hid (Owns wr base 2 m A N C Z') ∧ Hid (∀ j, j < i → Z' j = mk1I64 j (N j)) ∧ Hid ((Z' i).take k = (mk1I64 i (N i)).take k) ∧ Hid (Fr (Blocks m A N C) W wr) ∧ Hid (wr.heap[q]? = some (.cells cs 41 (0, 0)))) (fun k' _ => N i - (intOf k').toNat)
      case atStart => exact ⟨0, Z1, by omega, rfl, O1, M1, hide rfl, F1, Q1⟩
      case round =>
        obtain ⟨k, Z2, hk, rfl, O2, M2, T2, F2, Q2⟩ := hrel
        have hci := cell_of_row wr q i cs 41 (0, 0) Q2.out
        rw [HCI.out] at hci
        by_cases hkl : k < N i
        · obtain ⟨g, hAi, hgl, hcell, hfz, hne, hst⟩ := O2.out.store HA.out hlt hkl
          rw [hAi] at hci
          have HST := hide hst
          have HNE := hide (hne q cs _ _ Q2.out (by decide))
          clear hst hne
          obtain ⟨u0, hu0⟩ : ∃ u, (Z2 i)[k]? = some u := ⟨_, List.getElem?_eq_getElem (by have := (O2.out i hlt).1; omega)⟩
          rw [hu0] at hcell
          have HAi := hide hAi
          obtain ⟨v, hv⟩ : ∃ v : Int, v = 1000 * (i : Int) + (k : Int) := ⟨_, rfl⟩
          have ev : 1000 * (i : Int) + (k : Int) = v := hv.symm
          have hv0 : 0 ≤ v := by omega
          have hv1 : v ≤ 200000000 := by omega
          have HMk : Hid ((mk1I64 i (N i))[k]? = some (.int .i64 v)) := hide (by rw [hv]; exact mk1I64_at hkl)
          clear hv
          have HT := hide (take_set_snoc T2.out HMk.out (by have := (O2.out i hlt).1; omega))
          clear hAi hu0
          go_wp2
          go_roundw
          case rel => exact ⟨k + 1, _, by omega, by go_num, hide (HST.out _).1, hide (fun j hj => by rw [upd_other _ _ (by omega)]; exact M2.out j hj), hide (by rw [upd_same]; exact HT.out), hide (F2.out.ts (HST.out _).2), hide ((Fr.refl (Is g) wr).setCell (p := ⟨g, k, none⟩) (fun _ => rfl) _ |>.blk Q2.out (fun e => HNE.out e.symm))⟩
          case measure => simp [intOf]; omega
        · have hkN : k = N i := by omega
          go_wp2
          go_roundw
          case rel =>
            refine ⟨i + 1, Z2, by omega, by go_num, O2, hide (fun j hj => ?_), F2, Q2⟩
            by_cases hji : j = i
            · subst hji
              have h := T2.out
              rwa [List.take_of_length_le (by have := (O2.out j hlt).1; omega), List.take_of_length_le (by rw [mk1I64_len]; omega)] at h
            · exact M2.out j (by omega)
          case measure => simp [intOf]; omega
    · have O2 : Hid (∀ j, j < m → Own wo 0 2 1 (.slice (A j) (N j) (C j)) (N j) (mk1I64 j (N j))) := fun j hj => by
        have h := O1.out j hj
        rw [M1.out j (by omega)] at h
        exact h.lower (Nat.zero_le _)
      have LT : Hid (∀ j, j < m → ∀ k, (Value.slice (A j) (N j) (C j)).ownBlock = some k → k < W.heap.size) := fun j hj k hk => ((HO.out j hj).lt k hk).2
      have QW : Hid (q < W.heap.size) := (Array.getElem?_eq_some_iff.1 HQ.out).1
      have QN : Hid (∀ j, j < m → (Value.slice (A j) (N j) (C j)).ownBlock ≠ some q) := fun j hj hk => (HO.out j hj).ne_blk hk HQ.out (by decide)
      have hW := F1.out.size
      obtain ⟨i1, hi1, hz1, hs1, hb1⟩ := info_parts Tryz.infoEI64
      obtain ⟨i2, hi2, hz2, hs2, hb2⟩ := info_parts Tryz.infoSI64
      clear O1 M1 HO HQ
      go_wp2
      go_loopw [5, 6, 7, 8] (fun more i' _ _ wr => ∃ (i : Nat) (L : Nat → Value), i ≤ m ∧ i' = .int .i64 i ∧ Hid (Own wr W.heap.size 41 1 more i ((List.range i).map L))
          ∧ Hid (∀ j, i ≤ j → j < m → Own wr 0 2 1 (.slice (A j) (N j) (C j)) (N j) (mk1I64 j (N j)))
          ∧ Hid (∀ j, j < m → Rd wr W.heap.size (A j) (mk1I64 j (N j)))
          ∧ Hid (∀ j, j < i → Own wr 0 2 1 (L j) (N j + 30) (mk1I64 j (N j) ++ mk2I64 j))
          ∧ Hid (∀ j, j < i → ∀ j', i ≤ j' → j' < m → ∀ k, (Value.slice (A j') (N j') (C j')).ownBlock = some k → (L j).ownBlock ≠ some k)
          ∧ Hid (Fr (Blocks m A N C) W wr) ∧ Hid (wr.heap[q]? = some (.cells cs 41 (0, 0)))) (fun _ i _ _ _ => m - (intOf i).toNat)
      case atStart =>
        refine ⟨0, fun _ => undef, by omega, rfl, hide (Own.nil _ _ _ _), hide (fun j _ hj => O2.out j hj), hide (fun j hj => ?_), hide (fun j hj => by omega), hide (fun j hj => by omega), F1, Q1⟩
        have h := (O2.out j hj).rd
        intro x u hu
        obtain ⟨ad, e, hb, hc⟩ := h x u hu
        exact ⟨ad, e, LT.out j hj _ (by rw [e]; rfl), hc⟩
      case round =>
        obtain ⟨i, L, hi, rfl, OM, OV, RV, OL, DL, FW, QQ⟩ := hrel
        obtain ⟨wi, rfl⟩ : ∃ wi : World, wi = wr := ⟨_, rfl⟩
        clear hlt
        by_cases hlt : i < m
        · have hNi := HN.out i hlt
          have hci := cell_of_row wi q i cs 41 (0, 0) QQ.out
          rw [HCS.out i hlt] at hci
          have hWi := FW.out.size
          have AI := hide (OV.out i (Nat.le_refl _) hlt).mem
          go_wp2
          go_loopw [7, 8] (fun l k' wr => ∃ (k : Nat), k ≤ 30 ∧ k' = .int .i64 k ∧ Hid (Own wr 0 2 1 l (N i + k) (mk1I64 i (N i) ++ (mk2I64 i).take k))
              ∧ Hid (l.ownBlock = (Value.slice (A i) (N i) (C i)).ownBlock ∨ ∀ g, l.ownBlock = some g → wi.heap.size ≤ g)
              ∧ Hid (Rd wr W.heap.size (A i) (mk1I64 i (N i))) ∧ Hid (Fr (fun k => (Value.slice (A i) (N i) (C i)).ownBlock = some k) wi wr)) (fun _ k' _ => 30 - (intOf k').toNat)
          case atStart => exact ⟨0, by omega, rfl, hide (by simpa using OV.out i (Nat.le_refl _) hlt), hide (.inl rfl), hide (RV.out i hlt), hide (Fr.refl _ _)⟩
          case round =>
            obtain ⟨k, hk, rfl, I1, I2, I3, I4⟩ := hrel
            by_cases hkl : k < 30
            · obtain ⟨v, hv⟩ : ∃ v : Int, v = 500000 + 1000 * (i : Int) + (k : Int) := ⟨_, rfl⟩
              have ev : 500000 + 1000 * (i : Int) + (k : Int) = v := hv.symm
              have hv0 : 0 ≤ v := by omega
              have hv1 : v ≤ 200000000 := by omega
              have HMk : Hid ((mk2I64 i)[k]? = some (.int .i64 v)) := hide (by rw [hv]; exact mk2I64_at hkl)
              clear hv
              have HS := hide (Src.one (P := Tryz.prog) wr (e := 2) Tryz.underlying41 (.int .i64 v) rfl)
              have I1' := hide (I1.out.fr0 ((Fr.refl No wr).alloc (.cells #[.int .i64 v] 2)))
              have b1 : (N i + k + 1) * 8 ≤ 140737488355328 := by omega
              have b2 : N i + k + 1 ≤ maxLen := by unfold maxLen; omega
              go_wp2_with (at_builtin; refine wpList_append_two _ rfl (.tmp 52) (.tmp 58) 41 41 rfl 0 2 i1 (.int .i64 0) 1 8 Tryz.underlying41 hi1 hz1 hs1 hb1 rfl u7 (N i + k) _ rfl I1'.out _ 1 [.int .i64 v] rfl HS.out b1 b2 (Nat.zero_le _) ?_; intro v' w' hown hat; have ON := hide hown; have HAT := hide hat; clear hown hat)
              go_roundw
              case rel =>
                have h5 := ON.out
                rw [List.append_assoc, take_snoc_at HMk.out] at h5
                have h6 := apart_step hWi (LT.out i hlt) (by
                  rcases AI.out with ⟨h, h0⟩ | h
                  · exact .inl ⟨h, by rw [h0]; rfl⟩
                  · exact .inr h) I2.out I3.out I4.out h5 HAT.out
                exact ⟨k + 1, by omega, by go_num, hide h5, hide h6.1, hide h6.2.1, hide h6.2.2⟩
              case measure => simp [intOf]; omega
            · obtain rfl : k = 30 := by omega
              obtain ⟨Al, cl, rfl, hl1, hl2, _⟩ := I1.out.form
              have HS := hide (Src.one (P := Tryz.prog) wr (e := 41) Tryz.underlying22 (.slice Al (N i + 30) cl) rfl)
              have FO : Hid (Fr (fun k => (Value.slice (A i) (N i) (C i)).ownBlock = some k) wi (wr.alloc (.cells #[.slice Al (N i + 30) cl] 41))) := I4.out.alloc _
              have OM' : Hid (Own (wr.alloc (.cells #[.slice Al (N i + 30) cl] 41)) W.heap.size 41 1 u5 i ((List.range i).map L)) := OM.out.fr FO.out (fun g hg hk => by
                have := (OM.out.lt g hg).1
                have := LT.out i hlt g hk
                omega)
              have b1 : (i + 1) * 24 ≤ 140737488355328 := by omega
              have b2 : i + 1 ≤ maxLen := by unfold maxLen; omega
              have b3 : W.heap.size ≤ (wr.alloc (.cells #[.slice Al (N i + 30) cl] 41)).heap.size := Nat.le_trans hWi FO.out.size
              go_wp2_with (at_builtin; refine wpList_append_gen _ rfl (.tmp 60) (.tmp 62) 22 22 rfl W.heap.size 41 i2 (.slice none 0 0) 1 24 Tryz.underlying22 hi2 hz2 hs2 hb2 rfl u5 i _ rfl OM'.out _ 1 [.slice Al (N i + 30) cl] rfl HS.out b1 b2 b3 ?_; intro v' w' hown hfr hat; have ON := hide hown; have FN := hide hfr; clear hown hfr hat)
              go_roundw
              case rel =>
                have hmw : ∀ g, u5.ownBlock = some g → W.heap.size ≤ g := fun g hg => (OM'.out.lt g hg).1
                have hl : Own (wr.alloc (.cells #[.slice Al (N i + 30) cl] 41)) 0 2 1 (.slice Al (N i + 30) cl) (N i + 30) (mk1I64 i (N i) ++ mk2I64 i) := by
                  have h := I1.out
                  rw [List.take_of_length_le (by rw [mk2I64_len]; omega)] at h
                  exact h.fr0 ((Fr.refl No wr).alloc _)
                refine ⟨i + 1, updV L i (.slice Al (N i + 30) cl), by omega, by go_num, hide (by rw [← map_snoc]; exact ON.out), hide ?_, hide ?_, hide ?_, hide ?_, hide ?_, hide ?_⟩
                · intro j hij hj
                  refine ((OV.out j (by omega) hj).fr FO.out ?_).fr FN.out ?_
                  · intro g hg hk
                    exact HA.out.dis i j hlt hj (by omega) g hk hg
                  · intro g hg hk
                    have := LT.out j hj g hg
                    have := hmw g hk
                    omega
                · intro j hj
                  have h1 : Rd (wr.alloc (.cells #[.slice Al (N i + 30) cl] 41)) W.heap.size (A j) (mk1I64 j (N j)) := by
                    by_cases hji : j = i
                    · subst hji
                      exact I3.out.fr0 ((Fr.refl No wr).alloc _)
                    · refine (RV.out j hj).fr2 FO.out ?_
                      intro ad had hk
                      exact HA.out.dis i j hlt hj (fun e => hji e.symm) _ hk (by rw [had]; rfl)
                  refine h1.fr2 FN.out ?_
                  intro ad had hk
                  have := LT.out j hj ad.block (by rw [had]; rfl)
                  have := hmw _ hk
                  omega
                · intro j hj
                  by_cases hji : j = i
                  · subst hji
                    rw [updV_same]
                    exact hl.fr FN.out (fun g hg hk => hl.ne_own OM'.out (by decide) hk hg)
                  · rw [updV_other _ _ hji]
                    have h1 := (OL.out j (by omega)).fr FO.out (fun g hg hk => DL.out j (by omega) i (Nat.le_refl _) hlt g hk hg)
                    exact h1.fr FN.out (fun g hg hk => h1.ne_own OM'.out (by decide) hk hg)
                · intro j hj j' hij hj' k hk
                  by_cases hji : j = i
                  · subst hji
                    rw [updV_same]
                    rcases I2.out with h2 | h2
                    · rw [h2]
                      exact fun h => HA.out.dis j j' hlt hj' (by omega) k h hk
                    · intro h
                      have := h2 k h
                      have := LT.out j' hj' k hk
                      omega
                  · rw [updV_other _ _ hji]
                    exact DL.out j (by omega) j' (by omega) hj' k hk
                · refine (FW.out.trans FO.out (fun k _ hk => ⟨i, hlt, hk⟩)).trans FN.out ?_
                  intro k hk h
                  have := hmw k h
                  omega
                · refine FN.out.blk (FO.out.blk QQ.out (QN.out i hlt)) ?_
                  intro h
                  have := hmw q h
                  have := QW.out
                  omega
              case measure => simp [intOf]; omega
        · obtain rfl : m = i := by omega
          clear DL OV hW LT QW QN
          obtain ⟨AM, cM, rfl, hM1, hM2, _, hMR, _⟩ := OM.out.form
          unfold maxLen at hM2
          have MR := hide hMR
          clear hMR OM
          go_wp2
          go_loop [9, 10, 11, 12] (fun i' _ _ _ => ∃ i : Nat, i ≤ m ∧ i' = .int .i64 i) (fun i' _ _ _ => m - (intOf i').toNat)
          case atStart => exact ⟨0, by omega, rfl⟩
          case round =>
            obtain ⟨i, hi2', rfl⟩ := hrel
            clear hlt
            by_cases hlt : i < m
            · have hNi := HN.out i hlt
              have hci := cell_of_row wi q i cs 41 (0, 0) QQ.out
              rw [HCS.out i hlt] at hci
              obtain ⟨Al, cl, hLi, hl1, hl2, _, hLR, _⟩ := (OL.out i hlt).form
              unfold maxLen at hl2
              obtain ⟨am, rfl, _, hmc⟩ := MR.out i (L i) (by simp [List.getElem?_range hlt])
              rw [hLi] at hmc
              have LR := hide hLR
              clear hLR hLi
              go_wp2
              go_loop [11] (fun k' => ∃ k : Nat, k ≤ N i ∧ k' = .int .i64 k) (fun k' => N i - (intOf k').toNat)
              case atStart => exact ⟨0, by omega, rfl⟩
              case round =>
                obtain ⟨k, hk, rfl⟩ := hrel
                by_cases hkl : k < N i
                · obtain ⟨v, hv⟩ : ∃ v : Int, v = 1000 * (i : Int) + (k : Int) := ⟨_, rfl⟩
                  have ev : 1000 * (i : Int) + (k : Int) = v := hv.symm
                  have hv0 : 0 ≤ v := by omega
                  have hv1 : v ≤ 200000000 := by omega
                  have HMk : Hid ((mk1I64 i (N i))[k]? = some (.int .i64 v)) := hide (by rw [hv]; exact mk1I64_at hkl)
                  clear hv
                  obtain ⟨ad, hAi, _, hc1⟩ := RV.out i hlt k _ HMk.out
                  obtain ⟨bd, rfl, _, hc2⟩ := LR.out k (.int .i64 v) (by rw [List.getElem?_append_left (by rw [mk1I64_len]; exact hkl)]; exact HMk.out)
                  rw [hAi] at hci
                  have hb : (v != v) = false := by simp
                  clear hAi
                  go_wp2
                  go_round
                  case rel => exact ⟨k + 1, by omega, by go_num⟩
                  case measure => simp [intOf]; omega
                · go_wp2
                  go_loop [12] (fun k' => ∃ k : Nat, k ≤ 30 ∧ k' = .int .i64 k) (fun k' => 30 - (intOf k').toNat)
                  case atStart => exact ⟨0, by omega, rfl⟩
                  case round =>
                    clear hkl hk
                    obtain ⟨k, hk, rfl⟩ := hrel
                    by_cases hkl : k < 30
                    · obtain ⟨v, hv⟩ : ∃ v : Int, v = 500000 + 1000 * (i : Int) + (k : Int) := ⟨_, rfl⟩
                      have ev : 500000 + 1000 * (i : Int) + (k : Int) = v := hv.symm
                      have hv0 : 0 ≤ v := by omega
                      have hv1 : v ≤ 200000000 := by omega
                      have HMk : Hid ((mk2I64 i)[k]? = some (.int .i64 v)) := hide (by rw [hv]; exact mk2I64_at hkl)
                      clear hv
                      obtain ⟨bd, rfl, _, hc2⟩ := LR.out (N i + k) (.int .i64 v) (by
                        rw [List.getElem?_append_right (by rw [mk1I64_len]; omega), mk1I64_len, Nat.add_sub_cancel_left]
                        exact HMk.out)
                      have hb : (v != v) = false := by simp
                      have t1 : ((N i : Int) + (k : Int)).toNat = N i + k := by omega
                      go_wp2
                      go_round
                      case rel => exact ⟨k + 1, by omega, by go_num⟩
                      case measure => simp [intOf]; omega
                    · go_wp2
                      go_round
                      case rel => exact ⟨i + 1, by omega, by go_num⟩
                      case measure => simp [intOf]; omega
            · go_wp2
              go_ret
              exact ⟨rfl, FW.out⟩
end
end Go.Proofs.YtnjcncidlhllmaaGreat
namespace Go.Proofs.YtnjcncidlhllmaaGreat
set_option linter.unusedVariables false
set_option linter.unusedSimpArgs false
open Go.RowKit

theorem Tryz.infoEInt : (Tryz.prog.info? 3).map (fun i => (i.zero, i.size, i.bytes)) = some (some (.int .i64 0), 1, 8) := by kernel_rfl
theorem Tryz.infoSInt : (Tryz.prog.info? 45).map (fun i => (i.zero, i.size, i.bytes)) = some (some (.slice none 0 0), 1, 24) := by kernel_rfl
def mk1Int (j n : Nat) : List Value := (List.range n).map fun k : Nat => .int .i64 (1000 * (j : Int) + (k : Int))
def mk2Int (j : Nat) : List Value := (List.range 30).map fun k : Nat => .int .i64 (500000 + 1000 * (j : Int) + (k : Int))
theorem mk1Int_at {j n k : Nat} (h : k < n) : (mk1Int j n)[k]? = some (.int .i64 (1000 * (j : Int) + (k : Int))) := by simp [mk1Int, List.getElem?_range h]
theorem mk2Int_at {j k : Nat} (h : k < 30) : (mk2Int j)[k]? = some (.int .i64 (500000 + 1000 * (j : Int) + (k : Int))) := by simp [mk2Int, List.getElem?_range h]
theorem mk1Int_len (j n : Nat) : (mk1Int j n).length = n := by simp [mk1Int]
theorem mk2Int_len (j : Nat) : (mk2Int j).length = 30 := by simp [mk2Int]
section
variable (q m d : Nat) (A : Nat → Option Addr) (N C : Nat → Nat) (cs : Array Value) (W : World)
set_option maxRecDepth 100000 in
set_option maxHeartbeats 3200000 in
theorem apartInt_any (base : Nat) (Z : Nat → List Value) (hm : m ≤ 100000) (hN : ∀ j, j < m → N j ≤ 2097152) (hd : m ≤ d) (hd2 : d ≤ maxLen) (hq : W.heap[q]? = some (.cells cs 45 (0, 0))) (hcs : ∀ j, j < m → cs[j]? = some (.slice (A j) (N j) (C j)))
    (ho : Owns W base 3 m A N C Z) (ha : Apart m A N C) :
    Calls Tryz.prog 22 #[.slice (some ⟨q, 0, none⟩) m d] W (fun en w' => en = .returned (.bool true) ∧ Fr (Blocks m A N C) W w') := by
  unfold maxLen at hd2
  have HO := hide ho
  have HQ := hide hq
  have HCS := hide hcs
  have HN := hide hN
  have HA := hide ha
  clear ho hq hcs hN ha
  go_enter Tryz.func22, Tryz.ntmps22
  go_wp2
  go_loopw [3, 4] (fun i _ wr => ∃ (i' : Nat) (Z' : Nat → List Value), i' ≤ m ∧ i = .int .i64 i' ∧ Hid (Owns wr base 3 m A N C Z') ∧ Hid (∀ j, j < i' → Z' j = mk1Int j (N j)) ∧ Hid (Fr (Blocks m A N C) W wr) ∧ Hid (wr.heap[q]? = some (.cells cs 45 (0, 0)))) (fun i _ _ => m - (intOf i).toNat)
  case atStart => exact ⟨0, Z, by omega, rfl, HO, hide (fun j h => by omega), hide (Fr.refl _ _), HQ⟩
  case round =>
    obtain ⟨i, Z1, hi, rfl, O1, M1, F1, Q1⟩ := hrel
    obtain ⟨wo, rfl⟩ : ∃ wo : World, wo = wr := ⟨_, rfl⟩
    by_cases hlt : i < m
    · have hNi := HN.out i hlt
      have HCI := hide (HCS.out i hlt)
      go_wp2
      go_loopw [4] (fun k' wr => ∃ (k : Nat) (Z' : Nat → List Value), k ≤ N i ∧ k' = .int .i64 k ∧ Hid (Owns wr base 3 m A N C Z') ∧ Hid (∀ j, j < i → Z' j = mk1Int j (N j)) ∧ Hid ((Z' i).take k = (mk1Int i (N i)).take k) ∧ Hid (Fr (Blocks m A N C) W wr) ∧ Hid (wr.heap[q]? = some (.cells cs 45 (0, 0)))) (fun k' _ => N i - (intOf k').toNat)
      case atStart => exact ⟨0, Z1, by omega, rfl, O1, M1, hide rfl, F1, Q1⟩
      case round =>
        obtain ⟨k, Z2, hk, rfl, O2, M2, T2, F2, Q2⟩ := hrel
        have hci := cell_of_row wr q i cs 45 (0, 0) Q2.out
        rw [HCI.out] at hci
        by_cases hkl : k < N i
        · obtain ⟨g, hAi, hgl, hcell, hfz, hne, hst⟩ := O2.out.store HA.out hlt hkl
          rw [hAi] at hci
          have HST := hide hst
          have HNE := hide (hne q cs _ _ Q2.out (by decide))
          clear hst hne
          obtain ⟨u0, hu0⟩ : ∃ u, (Z2 i)[k]? = some u := ⟨_, List.getElem?_eq_getElem (by have := (O2.out i hlt).1; omega)⟩
          rw [hu0] at hcell
          have HAi := hide hAi
          obtain ⟨v, hv⟩ : ∃ v : Int, v = 1000 * (i : Int) + (k : Int) := ⟨_, rfl⟩
          have ev : 1000 * (i : Int) + (k : Int) = v := hv.symm
          have hv0 : 0 ≤ v := by omega
          have hv1 : v ≤ 200000000 := by omega
          have HMk : Hid ((mk1Int i (N i))[k]? = some (.int .i64 v)) := hide (by rw [hv]; exact mk1Int_at hkl)
          clear hv
          have HT := hide (take_set_snoc T2.out HMk.out (by have := (O2.out i hlt).1; omega))
          clear hAi hu0
          go_wp2
          go_roundw
          case rel => exact ⟨k + 1, _, by omega, by go_num, hide (HST.out _).1, hide (fun j hj => by rw [upd_other _ _ (by omega)]; exact M2.out j hj), hide (by rw [upd_same]; exact HT.out), hide (F2.out.ts (HST.out _).2), hide ((Fr.refl (Is g) wr).setCell (p := ⟨g, k, none⟩) (fun _ => rfl) _ |>.blk Q2.out (fun e => HNE.out e.symm))⟩
          case measure => simp [intOf]; omega
        · have hkN : k = N i := by omega
          go_wp2
          go_roundw
          case rel =>
            refine ⟨i + 1, Z2, by omega, by go_num, O2, hide (fun j hj => ?_), F2, Q2⟩
            by_cases hji : j = i
            · subst hji
              have h := T2.out
              rwa [List.take_of_length_le (by have := (O2.out j hlt).1; omega), List.take_of_length_le (by rw [mk1Int_len]; omega)] at h
            · exact M2.out j (by omega)
          case measure => simp [intOf]; omega
    · have O2 : Hid (∀ j, j < m → Own wo 0 3 1 (.slice (A j) (N j) (C j)) (N j) (mk1Int j (N j))) := fun j hj => by
        have h := O1.out j hj
        rw [M1.out j (by omega)] at h
        exact h.lower (Nat.zero_le _)
      have LT : Hid (∀ j, j < m → ∀ k, (Value.slice (A j) (N j) (C j)).ownBlock = some k → k < W.heap.size) := fun j hj k hk => ((HO.out j hj).lt k hk).2
      have QW : Hid (q < W.heap.size) := (Array.getElem?_eq_some_iff.1 HQ.out).1
      have QN : Hid (∀ j, j < m → (Value.slice (A j) (N j) (C j)).ownBlock ≠ some q) := fun j hj hk => (HO.out j hj).ne_blk hk HQ.out (by decide)
      have hW := F1.out.size
      obtain ⟨i1, hi1, hz1, hs1, hb1⟩ := info_parts Tryz.infoEInt
      obtain ⟨i2, hi2, hz2, hs2, hb2⟩ := info_parts Tryz.infoSInt
      clear O1 M1 HO HQ
      go_wp2
      go_loopw [5, 6, 7, 8] (fun more i' _ _ wr => ∃ (i : Nat) (L : Nat → Value), i ≤ m ∧ i' = .int .i64 i ∧ Hid (Own wr W.heap.size 45 1 more i ((List.range i).map L))
          ∧ Hid (∀ j, i ≤ j → j < m → Own wr 0 3 1 (.slice (A j) (N j) (C j)) (N j) (mk1Int j (N j)))
          ∧ Hid (∀ j, j < m → Rd wr W.heap.size (A j) (mk1Int j (N j)))
          ∧ Hid (∀ j, j < i → Own wr 0 3 1 (L j) (N j + 30) (mk1Int j (N j) ++ mk2Int j))
          ∧ Hid (∀ j, j < i → ∀ j', i ≤ j' → j' < m → ∀ k, (Value.slice (A j') (N j') (C j')).ownBlock = some k → (L j).ownBlock ≠ some k)
          ∧ Hid (Fr (Blocks m A N C) W wr) ∧ Hid (wr.heap[q]? = some (.cells cs 45 (0, 0)))) (fun _ i _ _ _ => m - (intOf i).toNat)
      case atStart =>
        refine ⟨0, fun _ => undef, by omega, rfl, hide (Own.nil _ _ _ _), hide (fun j _ hj => O2.out j hj), hide (fun j hj => ?_), hide (fun j hj => by omega), hide (fun j hj => by omega), F1, Q1⟩
        have h := (O2.out j hj).rd
        intro x u hu
        obtain ⟨ad, e, hb, hc⟩ := h x u hu
        exact ⟨ad, e, LT.out j hj _ (by rw [e]; rfl), hc⟩
      case round =>
        obtain ⟨i, L, hi, rfl, OM, OV, RV, OL, DL, FW, QQ⟩ := hrel
        obtain ⟨wi, rfl⟩ : ∃ wi : World, wi = wr := ⟨_, rfl⟩
        clear hlt
        by_cases hlt : i < m
        · have hNi := HN.out i hlt
          have hci := cell_of_row wi q i cs 45 (0, 0) QQ.out
          rw [HCS.out i hlt] at hci
          have hWi := FW.out.size
          have AI := hide (OV.out i (Nat.le_refl _) hlt).mem
          go_wp2
          go_loopw [7, 8] (fun l k' wr => ∃ (k : Nat), k ≤ 30 ∧ k' = .int .i64 k ∧ Hid (Own wr 0 3 1 l (N i + k) (mk1Int i (N i) ++ (mk2Int i).take k))
              ∧ Hid (l.ownBlock = (Value.slice (A i) (N i) (C i)).ownBlock ∨ ∀ g, l.ownBlock = some g → wi.heap.size ≤ g)
              ∧ Hid (Rd wr W.heap.size (A i) (mk1Int i (N i))) ∧ Hid (Fr (fun k => (Value.slice (A i) (N i) (C i)).ownBlock = some k) wi wr)) (fun _ k' _ => 30 - (intOf k').toNat)
          case atStart => exact ⟨0, by omega, rfl, hide (by simpa using OV.out i (Nat.le_refl _) hlt), hide (.inl rfl), hide (RV.out i hlt), hide (Fr.refl _ _)⟩
          case round =>
            obtain ⟨k, hk, rfl, I1, I2, I3, I4⟩ := hrel
            by_cases hkl : k < 30
            · obtain ⟨v, hv⟩ : ∃ v : Int, v = 500000 + 1000 * (i : Int) + (k : Int) := ⟨_, rfl⟩
              have ev : 500000 + 1000 * (i : Int) + (k : Int) = v := hv.symm
              have hv0 : 0 ≤ v := by omega
              have hv1 : v ≤ 200000000 := by omega
              have HMk : Hid ((mk2Int i)[k]? = some (.int .i64 v)) := hide (by rw [hv]; exact mk2Int_at hkl)
              clear hv
              have HS := hide (Src.one (P := Tryz.prog) wr (e := 3) Tryz.underlying45 (.int .i64 v) rfl)
              have I1' := hide (I1.out.fr0 ((Fr.refl No wr).alloc (.cells #[.int .i64 v] 3)))
              have b1 : (N i + k + 1) * 8 ≤ 140737488355328 := by omega
              have b2 : N i + k + 1 ≤ maxLen := by unfold maxLen; omega
              go_wp2_with (at_builtin; refine wpList_append_two _ rfl (.tmp 52) (.tmp 58) 45 45 rfl 0 3 i1 (.int .i64 0) 1 8 Tryz.underlying45 hi1 hz1 hs1 hb1 rfl u7 (N i + k) _ rfl I1'.out _ 1 [.int .i64 v] rfl HS.out b1 b2 (Nat.zero_le _) ?_; intro v' w' hown hat; have ON := hide hown; have HAT := hide hat; clear hown hat)
              go_roundw
              case rel =>
                have h5 := ON.out
                rw [List.append_assoc, take_snoc_at HMk.out] at h5
                have h6 := apart_step hWi (LT.out i hlt) (by
                  rcases AI.out with ⟨h, h0⟩ | h
                  · exact .inl ⟨h, by rw [h0]; rfl⟩
                  · exact .inr h) I2.out I3.out I4.out h5 HAT.out
                exact ⟨k + 1, by omega, by go_num, hide h5, hide h6.1, hide h6.2.1, hide h6.2.2⟩
              case measure => simp [intOf]; omega
            · obtain rfl : k = 30 := by omega
              obtain ⟨Al, cl, rfl, hl1, hl2, _⟩ := I1.out.form
              have HS := hide (Src.one (P := Tryz.prog) wr (e := 45) Tryz.underlying39 (.slice Al (N i + 30) cl) rfl)
              have FO : Hid (Fr (fun k => (Value.slice (A i) (N i) (C i)).ownBlock = some k) wi (wr.alloc (.cells #[.slice Al (N i + 30) cl] 45))) := I4.out.alloc _
              have OM' : Hid (Own (wr.alloc (.cells #[.slice Al (N i + 30) cl] 45)) W.heap.size 45 1 u5 i ((List.range i).map L)) := OM.out.fr FO.out (fun g hg hk => by
                have := (OM.out.lt g hg).1
                have := LT.out i hlt g hk
                omega)
              have b1 : (i + 1) * 24 ≤ 140737488355328 := by omega
              have b2 : i + 1 ≤ maxLen := by unfold maxLen; omega
              have b3 : W.heap.size ≤ (wr.alloc (.cells #[.slice Al (N i + 30) cl] 45)).heap.size := Nat.le_trans hWi FO.out.size
              go_wp2_with (at_builtin; refine wpList_append_gen _ rfl (.tmp 60) (.tmp 62) 39 39 rfl W.heap.size 45 i2 (.slice none 0 0) 1 24 Tryz.underlying39 hi2 hz2 hs2 hb2 rfl u5 i _ rfl OM'.out _ 1 [.slice Al (N i + 30) cl] rfl HS.out b1 b2 b3 ?_; intro v' w' hown hfr hat; have ON := hide hown; have FN := hide hfr; clear hown hfr hat)
              go_roundw
              case rel =>
                have hmw : ∀ g, u5.ownBlock = some g → W.heap.size ≤ g := fun g hg => (OM'.out.lt g hg).1
                have hl : Own (wr.alloc (.cells #[.slice Al (N i + 30) cl] 45)) 0 3 1 (.slice Al (N i + 30) cl) (N i + 30) (mk1Int i (N i) ++ mk2Int i) := by
                  have h := I1.out
                  rw [List.take_of_length_le (by rw [mk2Int_len]; omega)] at h
                  exact h.fr0 ((Fr.refl No wr).alloc _)
                refine ⟨i + 1, updV L i (.slice Al (N i + 30) cl), by omega, by go_num, hide (by rw [← map_snoc]; exact ON.out), hide ?_, hide ?_, hide ?_, hide ?_, hide ?_, hide ?_⟩
                · intro j hij hj
                  refine ((OV.out j (by omega) hj).fr FO.out ?_).fr FN.out ?_
                  · intro g hg hk
                    exact HA.out.dis i j hlt hj (by omega) g hk hg
                  · intro g hg hk
                    have := LT.out j hj g hg
                    have := hmw g hk
                    omega
                · intro j hj
                  have h1 : Rd (wr.alloc (.cells #[.slice Al (N i + 30) cl] 45)) W.heap.size (A j) (mk1Int j (N j)) := by
                    by_cases hji : j = i
                    · subst hji
                      exact I3.out.fr0 ((Fr.refl No wr).alloc _)
                    · refine (RV.out j hj).fr2 FO.out ?_
                      intro ad had hk
                      exact HA.out.dis i j hlt hj (fun e => hji e.symm) _ hk (by rw [had]; rfl)
                  refine h1.fr2 FN.out ?_
                  intro ad had hk
                  have := LT.out j hj ad.block (by rw [had]; rfl)
                  have := hmw _ hk
                  omega
                · intro j hj
                  by_cases hji : j = i
                  · subst hji
                    rw [updV_same]
                    exact hl.fr FN.out (fun g hg hk => hl.ne_own OM'.out (by decide) hk hg)
                  · rw [updV_other _ _ hji]
                    have h1 := (OL.out j (by omega)).fr FO.out (fun g hg hk => DL.out j (by omega) i (Nat.le_refl _) hlt g hk hg)
                    exact h1.fr FN.out (fun g hg hk => h1.ne_own OM'.out (by decide) hk hg)
                · intro j hj j' hij hj' k hk
                  by_cases hji : j = i
                  · subst hji
                    rw [updV_same]
                    rcases I2.out with h2 | h2
                    · rw [h2]
                      exact fun h => HA.out.dis j j' hlt hj' (by omega) k h hk
                    · intro h
                      have := h2 k h
                      have := LT.out j' hj' k hk
                      omega
                  · rw [updV_other _ _ hji]
                    exact DL.out j (by omega) j' (by omega) hj' k hk
                · refine (FW.out.trans FO.out (fun k _ hk => ⟨i, hlt, hk⟩)).trans FN.out ?_
                  intro k hk h
                  have := hmw k h
                  omega
                · refine FN.out.blk (FO.out.blk QQ.out (QN.out i hlt)) ?_
                  intro h
                  have := hmw q h
                  have := QW.out
                  omega
              case measure => simp [intOf]; omega
        · obtain rfl : m = i := by omega
          clear DL OV hW LT QW QN
          obtain ⟨AM, cM, rfl, hM1, hM2, _, hMR, _⟩ := OM.out.form
          unfold maxLen at hM2
          have MR := hide hMR
          clear hMR OM
          go_wp2
          go_loop [9, 10, 11, 12] (fun i' _ _ _ => ∃ i : Nat, i ≤ m ∧ i' = .int .i64 i) (fun i' _ _ _ => m - (intOf i').toNat)
          case atStart => exact ⟨0, by omega, rfl⟩
          case round =>
            obtain ⟨i, hi2', rfl⟩ := hrel
            clear hlt
            by_cases hlt : i < m
            · have hNi := HN.out i hlt
              have hci := cell_of_row wi q i cs 45 (0, 0) QQ.out
              rw [HCS.out i hlt] at hci
              obtain ⟨Al, cl, hLi, hl1, hl2, _, hLR, _⟩ := (OL.out i hlt).form
              unfold maxLen at hl2
              obtain ⟨am, rfl, _, hmc⟩ := MR.out i (L i) (by simp [List.getElem?_range hlt])
              rw [hLi] at hmc
              have LR := hide hLR
              clear hLR hLi
              go_wp2
              go_loop [11] (fun k' => ∃ k : Nat, k ≤ N i ∧ k' = .int .i64 k) (fun k' => N i - (intOf k').toNat)
              case atStart => exact ⟨0, by omega, rfl⟩
              case round =>
                obtain ⟨k, hk, rfl⟩ := hrel
                by_cases hkl : k < N i
                · obtain ⟨v, hv⟩ : ∃ v : Int, v = 1000 * (i : Int) + (k : Int) := ⟨_, rfl⟩
                  have ev : 1000 * (i : Int) + (k : Int) = v := hv.symm
                  have hv0 : 0 ≤ v := by omega
                  have hv1 : v ≤ 200000000 := by omega
                  have HMk : Hid ((mk1Int i (N i))[k]? = some (.int .i64 v)) := hide (by rw [hv]; exact mk1Int_at hkl)
                  clear hv
                  obtain ⟨ad, hAi, _, hc1⟩ := RV.out i hlt k _ HMk.out
                  obtain ⟨bd, rfl, _, hc2⟩ := LR.out k (.int .i64 v) (by rw [List.getElem?_append_left (by rw [mk1Int_len]; exact hkl)]; exact HMk.out)
                  rw [hAi] at hci
                  have hb : (v != v) = false := by simp
                  clear hAi
                  go_wp2
                  go_round
                  case rel => exact ⟨k + 1, by omega, by go_num⟩
                  case measure => simp [intOf]; omega
                · go_wp2
                  go_loop [12] (fun k' => ∃ k : Nat, k ≤ 30 ∧ k' = .int .i64 k) (fun k' => 30 - (intOf k').toNat)
                  case atStart => exact ⟨0, by omega, rfl⟩
                  case round =>
                    clear hkl hk
                    obtain ⟨k, hk, rfl⟩ := hrel
                    by_cases hkl : k < 30
                    · obtain ⟨v, hv⟩ : ∃ v : Int, v = 500000 + 1000 * (i : Int) + (k : Int) := ⟨_, rfl⟩
                      have ev : 500000 + 1000 * (i : Int) + (k : Int) = v := hv.symm
                      have hv0 : 0 ≤ v := by omega
                      have hv1 : v ≤ 200000000 := by omega
                      have HMk : Hid ((mk2Int i)[k]? = some (.int .i64 v)) := hide (by rw [hv]; exact mk2Int_at hkl)
                      clear hv
                      obtain ⟨bd, rfl, _, hc2⟩ := LR.out (N i + k) (.int .i64 v) (by
                        rw [List.getElem?_append_right (by rw [mk1Int_len]; omega), mk1Int_len, Nat.add_sub_cancel_left]
                        exact HMk.out)
                      have hb : (v != v) = false := by simp
                      have t1 : ((N i : Int) + (k : Int)).toNat = N i + k := by omega
                      go_wp2
                      go_round
                      case rel => exact ⟨k + 1, by omega, by go_num⟩
                      case measure => simp [intOf]; omega
                    · go_wp2
                      go_round
                      case rel => exact ⟨i + 1, by omega, by go_num⟩
                      case measure => simp [intOf]; omega
            · go_wp2
              go_ret
              exact ⟨rfl, FW.out⟩
end
end Go.Proofs.YtnjcncidlhllmaaGreat
namespace Go.Proofs.YtnjcncidlhllmaaGreat
set_option linter.unusedVariables false
set_option linter.unusedSimpArgs false
open Go.RowKit

theorem rd_lit8 (w : World) (cs : Array Value) (bs : List UInt8) (h : cs.toList = by8 bs) : Rd (w.alloc (.cells cs 5)) (w.alloc (.cells cs 5)).heap.size (some ⟨w.heap.size, 0, none⟩) (by8 bs) := by
  rw [← h]
  exact (Rd.block (heap_alloc_new w (.cells cs 5))).more (by simp)
def txt4 (n : Nat) : List UInt8 := [UInt8.ofNat (n % 256), UInt8.ofNat (n / 256 % 256), UInt8.ofNat (n / 65536 % 256), 77]
theorem txt4_toNat {x : Nat} : (UInt8.ofNat (x % 256)).toNat = x % 256 := by
  rw [UInt8.toNat_ofNat']
  omega
set_option maxRecDepth 100000 in
set_option maxHeartbeats 400000 in
theorem text4_any (n : Nat) (w : World) (hn : n < 16777216) : Calls Tryz.prog 59 #[.int .i64 (n : Nat)] w (RetF (.string ⟨(txt4 n).toArray⟩) w) := by
  have h1 : IntKind.u8.wrap (n : Int) = ((n % 256 : Nat) : Int) := by rw [IntKind.wrap_u8']; omega
  have h2 : IntKind.u8.wrap ((n : Int) / 256) = ((n / 256 % 256 : Nat) : Int) := by rw [IntKind.wrap_u8']; omega
  have h3 : IntKind.u8.wrap ((n : Int) / 65536) = ((n / 65536 % 256 : Nat) : Int) := by rw [IntKind.wrap_u8']; omega
  have hcv := conv_rd (w.alloc (.cells #[.int .u8 ((n : Int) % 256), .int .u8 ((n : Int) / 256 % 256), .int .u8 ((n : Int) / 65536 % 256), .int .u8 77] 5)) (some ⟨w.heap.size, 0, none⟩) 4 4 (txt4 n) rfl (rd_lit8 w _ (txt4 n) (by
    unfold txt4 by8
    simp only [List.map_cons, List.map_nil, txt4_toNat]
    rfl))
  go_enter Tryz.func59, Tryz.ntmps59
  go_wp2
  go_ret
  exact ⟨rfl, (Fr.refl No w).alloc _⟩
theorem ba0 {b0 b1 b2 b3 : UInt8} (h : 0 < (⟨#[b0, b1, b2, b3]⟩ : ByteArray).size) : (⟨#[b0, b1, b2, b3]⟩ : ByteArray)[0]'h = b0 := rfl
theorem ba1 {b0 b1 b2 b3 : UInt8} (h : 1 < (⟨#[b0, b1, b2, b3]⟩ : ByteArray).size) : (⟨#[b0, b1, b2, b3]⟩ : ByteArray)[1]'h = b1 := rfl
theorem ba2 {b0 b1 b2 b3 : UInt8} (h : 2 < (⟨#[b0, b1, b2, b3]⟩ : ByteArray).size) : (⟨#[b0, b1, b2, b3]⟩ : ByteArray)[2]'h = b2 := rfl
set_option maxRecDepth 100000 in
set_option maxHeartbeats 400000 in
theorem value4_any (n : Nat) (w : World) (hn : n < 16777216) : Calls Tryz.prog 60 #[.string ⟨(txt4 n).toArray⟩] w (RetQ (.int .i64 (n : Nat)) w) := by
  have e0 : (UInt8.ofNat (n % 256)).toNat = n % 256 := txt4_toNat
  have e1 : (UInt8.ofNat (n / 256 % 256)).toNat = n / 256 % 256 := txt4_toNat
  have e2 : (UInt8.ofNat (n / 65536 % 256)).toNat = n / 65536 % 256 := txt4_toNat
  unfold txt4
  generalize UInt8.ofNat (n % 256) = b0 at *
  generalize UInt8.ofNat (n / 256 % 256) = b1 at *
  generalize UInt8.ofNat (n / 65536 % 256) = b2 at *
  go_enter Tryz.func60, Tryz.ntmps60
  have z3 : ∀ h : 3 < (⟨#[b0, b1, b2, 77]⟩ : ByteArray).size, ((((⟨#[b0, b1, b2, 77]⟩ : ByteArray)[3]'h).toNat : Int) != 77) = false := fun h => rfl
  go_wp2
  go_quiet (fail)
  simp only [ba0, ba1, ba2]
  have l0 : b0.toNat < 256 := b0.toNat_lt
  have l1 : b1.toNat < 256 := b1.toNat_lt
  have l2 : b2.toNat < 256 := b2.toNat_lt
  generalize b0.toNat = t0 at *
  generalize b1.toNat = t1 at *
  generalize b2.toNat = t2 at *
  have hv : wrap64 (wrap64 (wrap64 (t0 : Int) + wrap64 (wrap64 (t1 : Int) * 256)) + wrap64 (wrap64 (t2 : Int) * 65536)) = (n : Int) := by
    rw [IntWalk.wrap64_in (t0 : Int) (by omega), IntWalk.wrap64_in (t1 : Int) (by omega), IntWalk.wrap64_in (t2 : Int) (by omega), IntWalk.wrap64_in ((t1 : Int) * 256) (by omega), IntWalk.wrap64_in ((t2 : Int) * 65536) (by omega), IntWalk.wrap64_in ((t0 : Int) + (t1 : Int) * 256) (by omega), IntWalk.wrap64_in ((t0 : Int) + (t1 : Int) * 256 + (t2 : Int) * 65536) (by omega)]
    omega
  rw [hv]
  clear hv z3
  go_wp2
  go_ret
  exact ⟨rfl, _, rfl⟩
end Go.Proofs.YtnjcncidlhllmaaGreat
namespace Go.Proofs.YtnjcncidlhllmaaGreat
set_option linter.unusedVariables false
set_option linter.unusedSimpArgs false
open Go.RowKit

theorem Tryz.infoES : (Tryz.prog.info? 9).map (fun i => (i.zero, i.size, i.bytes)) = some (some (.string ⟨#[]⟩), 1, 16) := by kernel_rfl
theorem Tryz.infoSS : (Tryz.prog.info? 43).map (fun i => (i.zero, i.size, i.bytes)) = some (some (.slice none 0 0), 1, 24) := by kernel_rfl
def mk1S (j n : Nat) : List Value := (List.range n).map fun k : Nat => .string ⟨(txt4 (1000 * j + k)).toArray⟩
def mk2S (j : Nat) : List Value := (List.range 30).map fun k : Nat => .string ⟨(txt4 (500000 + 1000 * j + k)).toArray⟩
theorem mk1S_at {j n k : Nat} (h : k < n) : (mk1S j n)[k]? = some (.string ⟨(txt4 (1000 * j + k)).toArray⟩) := by simp [mk1S, List.getElem?_range h]
theorem mk2S_at {j k : Nat} (h : k < 30) : (mk2S j)[k]? = some (.string ⟨(txt4 (500000 + 1000 * j + k)).toArray⟩) := by simp [mk2S, List.getElem?_range h]
theorem mk1S_len (j n : Nat) : (mk1S j n).length = n := by simp [mk1S]
theorem mk2S_len (j : Nat) : (mk2S j).length = 30 := by simp [mk2S]
section
variable (q m d : Nat) (A : Nat → Option Addr) (N C : Nat → Nat) (cs : Array Value) (W : World)
set_option maxRecDepth 100000 in
set_option maxHeartbeats 3200000 in
theorem apartS_any (base : Nat) (Z : Nat → List Value) (hm : m ≤ 1000) (hN : ∀ j, j < m → N j ≤ 10000) (hd : m ≤ d) (hd2 : d ≤ maxLen) (hq : W.heap[q]? = some (.cells cs 43 (0, 0))) (hcs : ∀ j, j < m → cs[j]? = some (.slice (A j) (N j) (C j)))
    (ho : Owns W base 9 m A N C Z) (ha : Apart m A N C) :
    Calls Tryz.prog 21 #[.slice (some ⟨q, 0, none⟩) m d] W (fun en w' => en = .returned (.bool true) ∧ Fr (Blocks m A N C) W w') := by
  unfold maxLen at hd2
  have HO := hide ho
  have HQ := hide hq
  have HCS := hide hcs
  have HN := hide hN
  have HA := hide ha
  clear ho hq hcs hN ha
  go_enter Tryz.func21, Tryz.ntmps21
  go_wp2
  go_loopw [3, 4] (fun i _ wr => ∃ (i' : Nat) (Z' : Nat → List Value), i' ≤ m ∧ i = .int .i64 i' ∧ Hid (Owns wr base 9 m A N C Z') ∧ Hid (∀ j, j < i' → Z' j = mk1S j (N j)) ∧ Hid (Fr (Blocks m A N C) W wr) ∧ Hid (wr.heap[q]? = some (.cells cs 43 (0, 0)))) (fun i _ _ => m - (intOf i).toNat)
  case atStart => exact ⟨0, Z, by omega, rfl, HO, hide (fun j h => by omega), hide (Fr.refl _ _), HQ⟩
  case round =>
    obtain ⟨i, Z1, hi, rfl, O1, M1, F1, Q1⟩ := hrel
    obtain ⟨wo, rfl⟩ : ∃ wo : World, wo = wr := ⟨_, rfl⟩
    by_cases hlt : i < m
    · have hNi := HN.out i hlt
      have HCI := hide (HCS.out i hlt)
      go_wp2
      go_loopw [4] (fun k' wr => ∃ (k : Nat) (Z' : Nat → List Value), k ≤ N i ∧ k' = .int .i64 k ∧ Hid (Owns wr base 9 m A N C Z') ∧ Hid (∀ j, j < i → Z' j = mk1S j (N j)) ∧ Hid ((Z' i).take k = (mk1S i (N i)).take k) ∧ Hid (Fr (Blocks m A N C) W wr) ∧ Hid (wr.heap[q]? = some (.cells cs 43 (0, 0)))) (fun k' _ => N i - (intOf k').toNat)
      case atStart => exact ⟨0, Z1, by omega, rfl, O1, M1, hide rfl, F1, Q1⟩
      case round =>
        obtain ⟨k, Z2, hk, rfl, O2, M2, T2, F2, Q2⟩ := hrel
        have hci := cell_of_row wr q i cs 43 (0, 0) Q2.out
        rw [HCI.out] at hci
        by_cases hkl : k < N i
        · obtain ⟨g, hAi, hgl, hcell, hfz, hne, hst⟩ := O2.out.store HA.out hlt hkl
          rw [hAi] at hci
          have HST := hide (fun (W : World) (f : Fr No wr W) => Owns.store (fun j hj => (O2.out j hj).fr0 f) HA.out hlt hkl)
          have hNE := hne q cs _ _ Q2.out (by decide)
          have HNE := hide hNE
          obtain ⟨u0, hu0⟩ : ∃ u, (Z2 i)[k]? = some u := ⟨_, List.getElem?_eq_getElem (by have := (O2.out i hlt).1; omega)⟩
          rw [hu0] at hcell
          have HAi := hide hAi
          have hw1 : IntKind.i64.wrap (1000 * (i : Int)) = 1000 * (i : Int) := IntWalk.i64_in _ (by omega)
          have hw2 : IntKind.i64.wrap (1000 * (i : Int) + (k : Int)) = 1000 * (i : Int) + (k : Int) := IntWalk.i64_in _ (by omega)
          have HTx := hide (text4_any (1000 * i + k) wr.drew (by omega))
          rw [show ((1000 * i + k : Nat) : Int) = 1000 * (i : Int) + (k : Int) by omega] at HTx
          obtain ⟨T, hT⟩ : ∃ T : ByteArray, T = ⟨(txt4 (1000 * i + k)).toArray⟩ := ⟨_, rfl⟩
          rw [← hT] at HTx
          have HMk : Hid ((mk1S i (N i))[k]? = some (.string T)) := hide (by rw [hT]; exact mk1S_at hkl)
          have HT := hide (take_set_snoc T2.out HMk.out (by have := (O2.out i hlt).1; omega))
          have hc2 : wr.drew.cell? ⟨q, i, none⟩ = some (.slice (some ⟨g, 0, none⟩) (N i) (C i)) := hci
          have HC1 := hide hci
          have HC2 := hide hc2
          have HU := hide hcell
          have HFz : Hid (∀ (W : World), Fr No wr W → W.frozen? ⟨g, k, none⟩ = false) := hide (fun W f => by
            obtain ⟨g', e, _, _, hz, _, _⟩ := HST.out W f
            rw [HAi.out] at e
            injection e with e
            injection e with e
            subst e
            exact hz)
          have HSt : Hid (∀ (W : World), Fr No wr W → ∀ v : Value, Owns (W.setCell ⟨g, k, none⟩ v) base 9 m A N C (upd Z2 i ((Z2 i).set k v)) ∧ Fr (Blocks m A N C) W (W.setCell ⟨g, k, none⟩ v)) := hide (fun W f v => by
            obtain ⟨g', e, _, _, _, _, hs⟩ := HST.out W f
            rw [HAi.out] at e
            injection e with e
            injection e with e
            subst e
            exact hs v)
          clear hAi hu0 hT hgl hcell hfz hne hst hNE HST
          go_wp2
          go_region_held3 (fun W => W.cell? ⟨q, i, none⟩ = some (.slice (some ⟨g, 0, none⟩) (N i) (C i))) (first | exact k30 | exact k20 | exact HC2.out) (first
            | (go_at_call 59; refine HTx.out.mono ?_; rintro en w20 ⟨rfl, hfr⟩; have f20 : Fr No wr w20 := ((Fr.refl No wr).drew).tr hfr; have k20 := f20.cell HC1.out (fun h => h); have HF20 := hide f20; have m0 : w20.cell? ⟨g, k, none⟩ = some u0 := f20.cell HU.out (fun h => h); have z0 := HFz.out w20 f20; have k30 : (w20.setCell ⟨g, k, none⟩ (.string T)).cell? ⟨q, i, none⟩ = some (.slice (some ⟨g, 0, none⟩) (N i) (C i)) := (World.cell?_setCell_other _ ⟨g, k, none⟩ ⟨q, i, none⟩ _ (by intro h; injection h with h; first | exact HNE.out h | exact HNE.out h.symm)).trans k20))
          go_wp2
          go_roundw
          case rel => exact ⟨k + 1, _, by omega, by go_num, hide (HSt.out w20 HF20.out _).1, hide (fun j hj => by rw [upd_other _ _ (by omega)]; exact M2.out j hj), hide (by rw [upd_same]; exact HT.out), hide ((F2.out.trans HF20.out (fun _ _ h => h.elim)).ts (HSt.out w20 HF20.out _).2), hide ((Fr.refl (Is g) w20).setCell (p := ⟨g, k, none⟩) (fun _ => rfl) _ |>.blk (HF20.out.blk Q2.out (fun h => h)) (fun e => HNE.out e.symm))⟩
          case measure => simp [intOf]; omega
        · have hkN : k = N i := by omega
          go_wp2
          go_roundw
          case rel =>
            refine ⟨i + 1, Z2, by omega, by go_num, O2, hide (fun j hj => ?_), F2, Q2⟩
            by_cases hji : j = i
            · subst hji
              have h := T2.out
              rwa [List.take_of_length_le (by have := (O2.out j hlt).1; omega), List.take_of_length_le (by rw [mk1S_len]; omega)] at h
            · exact M2.out j (by omega)
          case measure => simp [intOf]; omega
    · have O2 : Hid (∀ j, j < m → Own wo 0 9 1 (.slice (A j) (N j) (C j)) (N j) (mk1S j (N j))) := fun j hj => by
        have h := O1.out j hj
        rw [M1.out j (by omega)] at h
        exact h.lower (Nat.zero_le _)
      have LT : Hid (∀ j, j < m → ∀ k, (Value.slice (A j) (N j) (C j)).ownBlock = some k → k < W.heap.size) := fun j hj k hk => ((HO.out j hj).lt k hk).2
      have QW : Hid (q < W.heap.size) := (Array.getElem?_eq_some_iff.1 HQ.out).1
      have QN : Hid (∀ j, j < m → (Value.slice (A j) (N j) (C j)).ownBlock ≠ some q) := fun j hj hk => (HO.out j hj).ne_blk hk HQ.out (by decide)
      have hW := F1.out.size
      obtain ⟨i1, hi1, hz1, hs1, hb1⟩ := info_parts Tryz.infoES
      obtain ⟨i2, hi2, hz2, hs2, hb2⟩ := info_parts Tryz.infoSS
      clear O1 M1 HO HQ
      go_wp2
      go_loopw [5, 6, 7, 8] (fun more i' _ _ wr => ∃ (i : Nat) (L : Nat → Value), i ≤ m ∧ i' = .int .i64 i ∧ Hid (Own wr W.heap.size 43 1 more i ((List.range i).map L))
          ∧ Hid (∀ j, i ≤ j → j < m → Own wr 0 9 1 (.slice (A j) (N j) (C j)) (N j) (mk1S j (N j)))
          ∧ Hid (∀ j, j < m → Rd wr W.heap.size (A j) (mk1S j (N j)))
          ∧ Hid (∀ j, j < i → Own wr 0 9 1 (L j) (N j + 30) (mk1S j (N j) ++ mk2S j))
          ∧ Hid (∀ j, j < i → ∀ j', i ≤ j' → j' < m → ∀ k, (Value.slice (A j') (N j') (C j')).ownBlock = some k → (L j).ownBlock ≠ some k)
          ∧ Hid (Fr (Blocks m A N C) W wr) ∧ Hid (wr.heap[q]? = some (.cells cs 43 (0, 0)))) (fun _ i _ _ _ => m - (intOf i).toNat)
      case atStart =>
        refine ⟨0, fun _ => undef, by omega, rfl, hide (Own.nil _ _ _ _), hide (fun j _ hj => O2.out j hj), hide (fun j hj => ?_), hide (fun j hj => by omega), hide (fun j hj => by omega), F1, Q1⟩
        have h := (O2.out j hj).rd
        intro x u hu
        obtain ⟨ad, e, hb, hc⟩ := h x u hu
        exact ⟨ad, e, LT.out j hj _ (by rw [e]; rfl), hc⟩
      case round =>
        obtain ⟨i, L, hi, rfl, OM, OV, RV, OL, DL, FW, QQ⟩ := hrel
        obtain ⟨wi, rfl⟩ : ∃ wi : World, wi = wr := ⟨_, rfl⟩
        clear hlt
        by_cases hlt : i < m
        · have hNi := HN.out i hlt
          have hci := cell_of_row wi q i cs 43 (0, 0) QQ.out
          rw [HCS.out i hlt] at hci
          have hWi := FW.out.size
          have AI := hide (OV.out i (Nat.le_refl _) hlt).mem
          go_wp2
          go_loopw [7, 8] (fun l k' wr => ∃ (k : Nat), k ≤ 30 ∧ k' = .int .i64 k ∧ Hid (Own wr 0 9 1 l (N i + k) (mk1S i (N i) ++ (mk2S i).take k))
              ∧ Hid (l.ownBlock = (Value.slice (A i) (N i) (C i)).ownBlock ∨ ∀ g, l.ownBlock = some g → wi.heap.size ≤ g)
              ∧ Hid (Rd wr W.heap.size (A i) (mk1S i (N i))) ∧ Hid (Fr (fun k => (Value.slice (A i) (N i) (C i)).ownBlock = some k) wi wr)) (fun _ k' _ => 30 - (intOf k').toNat)
          case atStart => exact ⟨0, by omega, rfl, hide (by simpa using OV.out i (Nat.le_refl _) hlt), hide (.inl rfl), hide (RV.out i hlt), hide (Fr.refl _ _)⟩
          case round =>
            obtain ⟨k, hk, rfl, I1, I2, I3, I4⟩ := hrel
            by_cases hkl : k < 30
            · have hw1 : IntKind.i64.wrap (1000 * (i : Int)) = 1000 * (i : Int) := IntWalk.i64_in _ (by omega)
              have hw2 : IntKind.i64.wrap (500000 + 1000 * (i : Int)) = 500000 + 1000 * (i : Int) := IntWalk.i64_in _ (by omega)
              have hw3 : IntKind.i64.wrap (500000 + 1000 * (i : Int) + (k : Int)) = 500000 + 1000 * (i : Int) + (k : Int) := IntWalk.i64_in _ (by omega)
              have HTx := hide (text4_any (500000 + 1000 * i + k) wr (by omega))
              rw [show ((500000 + 1000 * i + k : Nat) : Int) = 500000 + 1000 * (i : Int) + (k : Int) by omega] at HTx
              obtain ⟨T, hT⟩ : ∃ T : ByteArray, T = ⟨(txt4 (500000 + 1000 * i + k)).toArray⟩ := ⟨_, rfl⟩
              rw [← hT] at HTx
              have HMk : Hid ((mk2S i)[k]? = some (.string T)) := hide (by rw [hT]; exact mk2S_at hkl)
              have b1 : (N i + k + 1) * 16 ≤ 140737488355328 := by omega
              have b2 : N i + k + 1 ≤ maxLen := by unfold maxLen; omega
              clear hT
              go_wp2_with (first
                | (go_at_call 59; refine HTx.out.mono ?_; rintro en w21 ⟨rfl, hfr⟩; have HF21 := hide hfr; have HS := hide (Src.one (P := Tryz.prog) w21 (e := 9) Tryz.underlying43 (.string T) rfl); have I1' := hide ((I1.out.fr0 hfr).fr0 ((Fr.refl No w21).alloc (.cells #[.string T] 9))); clear hfr HTx)
                | (at_builtin; refine wpList_append_two _ rfl (.tmp 53) (.tmp 60) 43 43 rfl 0 9 i1 (.string ⟨#[]⟩) 1 16 Tryz.underlying43 hi1 hz1 hs1 hb1 rfl u7 (N i + k) _ rfl I1'.out _ 1 [.string T] rfl HS.out b1 b2 (Nat.zero_le _) ?_; intro v' w' hown hat; have ON := hide hown; have HAT := hide hat; clear hown hat))
              go_roundw
              case rel =>
                have h5 := ON.out
                rw [List.append_assoc, take_snoc_at HMk.out] at h5
                have h6 := apart_step hWi (LT.out i hlt) (by
                  rcases AI.out with ⟨h, h0⟩ | h
                  · exact .inl ⟨h, by rw [h0]; rfl⟩
                  · exact .inr h) I2.out (I3.out.fr0 HF21.out) (I4.out.trans HF21.out (fun _ _ h => h.elim)) h5 HAT.out
                exact ⟨k + 1, by omega, by go_num, hide h5, hide h6.1, hide h6.2.1, hide h6.2.2⟩
              case measure => simp [intOf]; omega
            · obtain rfl : k = 30 := by omega
              obtain ⟨Al, cl, rfl, hl1, hl2, _⟩ := I1.out.form
              have HS := hide (Src.one (P := Tryz.prog) wr (e := 43) Tryz.underlying23 (.slice Al (N i + 30) cl) rfl)
              have FO : Hid (Fr (fun k => (Value.slice (A i) (N i) (C i)).ownBlock = some k) wi (wr.alloc (.cells #[.slice Al (N i + 30) cl] 43))) := I4.out.alloc _
              have OM' : Hid (Own (wr.alloc (.cells #[.slice Al (N i + 30) cl] 43)) W.heap.size 43 1 u5 i ((List.range i).map L)) := OM.out.fr FO.out (fun g hg hk => by
                have := (OM.out.lt g hg).1
                have := LT.out i hlt g hk
                omega)
              have b1 : (i + 1) * 24 ≤ 140737488355328 := by omega
              have b2 : i + 1 ≤ maxLen := by unfold maxLen; omega
              have b3 : W.heap.size ≤ (wr.alloc (.cells #[.slice Al (N i + 30) cl] 43)).heap.size := Nat.le_trans hWi FO.out.size
              go_wp2_with (at_builtin; refine wpList_append_gen _ rfl (.tmp 62) (.tmp 64) 23 23 rfl W.heap.size 43 i2 (.slice none 0 0) 1 24 Tryz.underlying23 hi2 hz2 hs2 hb2 rfl u5 i _ rfl OM'.out _ 1 [.slice Al (N i + 30) cl] rfl HS.out b1 b2 b3 ?_; intro v' w' hown hfr hat; have ON := hide hown; have FN := hide hfr; clear hown hfr hat)
              go_roundw
              case rel =>
                have hmw : ∀ g, u5.ownBlock = some g → W.heap.size ≤ g := fun g hg => (OM'.out.lt g hg).1
                have hl : Own (wr.alloc (.cells #[.slice Al (N i + 30) cl] 43)) 0 9 1 (.slice Al (N i + 30) cl) (N i + 30) (mk1S i (N i) ++ mk2S i) := by
                  have h := I1.out
                  rw [List.take_of_length_le (by rw [mk2S_len]; omega)] at h
                  exact h.fr0 ((Fr.refl No wr).alloc _)
                refine ⟨i + 1, updV L i (.slice Al (N i + 30) cl), by omega, by go_num, hide (by rw [← map_snoc]; exact ON.out), hide ?_, hide ?_, hide ?_, hide ?_, hide ?_, hide ?_⟩
                · intro j hij hj
                  refine ((OV.out j (by omega) hj).fr FO.out ?_).fr FN.out ?_
                  · intro g hg hk
                    exact HA.out.dis i j hlt hj (by omega) g hk hg
                  · intro g hg hk
                    have := LT.out j hj g hg
                    have := hmw g hk
                    omega
                · intro j hj
                  have h1 : Rd (wr.alloc (.cells #[.slice Al (N i + 30) cl] 43)) W.heap.size (A j) (mk1S j (N j)) := by
                    by_cases hji : j = i
                    · subst hji
                      exact I3.out.fr0 ((Fr.refl No wr).alloc _)
                    · refine (RV.out j hj).fr2 FO.out ?_
                      intro ad had hk
                      exact HA.out.dis i j hlt hj (fun e => hji e.symm) _ hk (by rw [had]; rfl)
                  refine h1.fr2 FN.out ?_
                  intro ad had hk
                  have := LT.out j hj ad.block (by rw [had]; rfl)
                  have := hmw _ hk
                  omega
                · intro j hj
                  by_cases hji : j = i
                  · subst hji
                    rw [updV_same]
                    exact hl.fr FN.out (fun g hg hk => hl.ne_own OM'.out (by decide) hk hg)
                  · rw [updV_other _ _ hji]
                    have h1 := (OL.out j (by omega)).fr FO.out (fun g hg hk => DL.out j (by omega) i (Nat.le_refl _) hlt g hk hg)
                    exact h1.fr FN.out (fun g hg hk => h1.ne_own OM'.out (by decide) hk hg)
                · intro j hj j' hij hj' k hk
                  by_cases hji : j = i
                  · subst hji
                    rw [updV_same]
                    rcases I2.out with h2 | h2
                    · rw [h2]
                      exact fun h => HA.out.dis j j' hlt hj' (by omega) k h hk
                    · intro h
                      have := h2 k h
                      have := LT.out j' hj' k hk
                      omega
                  · rw [updV_other _ _ hji]
                    exact DL.out j (by omega) j' (by omega) hj' k hk
                · refine (FW.out.trans FO.out (fun k _ hk => ⟨i, hlt, hk⟩)).trans FN.out ?_
                  intro k hk h
                  have := hmw k h
                  omega
                · refine FN.out.blk (FO.out.blk QQ.out (QN.out i hlt)) ?_
                  intro h
                  have := hmw q h
                  have := QW.out
                  omega
              case measure => simp [intOf]; omega
        · obtain rfl : m = i := by omega
          clear DL OV hW LT QW QN
          obtain ⟨AM, cM, rfl, hM1, hM2, _, hMR, _⟩ := OM.out.form
          unfold maxLen at hM2
          have MR := hide hMR
          clear hMR OM
          go_wp2
          go_loopw [9, 10, 11, 12] (fun i' _ _ _ wq => ∃ i : Nat, i ≤ m ∧ i' = .int .i64 i ∧ Hid (Fr No wi wq)) (fun i' _ _ _ _ => m - (intOf i').toNat)
          case atStart => exact ⟨0, by omega, rfl, hide (Fr.refl _ _)⟩
          case round =>
            obtain ⟨wa, rfl⟩ : ∃ wa : World, wa = wr := ⟨_, rfl⟩
            obtain ⟨i, hi2', rfl, HFa⟩ := hrel
            clear hlt
            by_cases hlt : i < m
            · have hNi := HN.out i hlt
              have hci0 := cell_of_row wi q i cs 43 (0, 0) QQ.out
              rw [HCS.out i hlt] at hci0
              obtain ⟨Al, cl, hLi, hl1, hl2, _, hLR, _⟩ := (OL.out i hlt).form
              unfold maxLen at hl2
              obtain ⟨am, hAM, _, hmc0⟩ := MR.out i (L i) (by simp [List.getElem?_range hlt])
              subst hAM
              rw [hLi] at hmc0
              have LR := hide hLR
              have HCi := hide hci0
              have HMc := hide hmc0
              have hci := HFa.out.cell hci0 (fun h => h)
              clear hLR hLi hci0 hmc0
              go_wp2
              go_loopw [11] (fun k' wq => ∃ k : Nat, k ≤ N i ∧ k' = .int .i64 k ∧ Hid (Fr No wi wq)) (fun k' _ => N i - (intOf k').toNat)
              case atStart => exact ⟨0, by omega, rfl, HFa⟩
              case round =>
                obtain ⟨wb, rfl⟩ : ∃ wb : World, wb = wr := ⟨_, rfl⟩
                clear hci
                obtain ⟨k, hk, rfl, HFb⟩ := hrel
                by_cases hkl : k < N i
                · obtain ⟨v, hv⟩ : ∃ v : Int, v = 1000 * (i : Int) + (k : Int) := ⟨_, rfl⟩
                  have ev : 1000 * (i : Int) + (k : Int) = v := hv.symm
                  have hv0 : 0 ≤ v := by omega
                  have hv1 : v ≤ 200000000 := by omega
                  have HVa := hide (fun W => value4_any (1000 * i + k) W (by omega))
                  rw [show ((1000 * i + k : Nat) : Int) = v by omega] at HVa
                  obtain ⟨T, hT⟩ : ∃ T : ByteArray, T = ⟨(txt4 (1000 * i + k)).toArray⟩ := ⟨_, rfl⟩
                  rw [← hT] at HVa
                  have HMk : Hid ((mk1S i (N i))[k]? = some (.string T)) := hide (by rw [hT]; exact mk1S_at hkl)
                  clear hv hT
                  obtain ⟨ad, hAi, _, hc10⟩ := RV.out i hlt k _ HMk.out
                  obtain ⟨bd, hAl, _, hc20⟩ := LR.out k (.string T) (by rw [List.getElem?_append_left (by rw [mk1S_len]; exact hkl)]; exact HMk.out)
                  have hci := HFb.out.cell HCi.out (fun h => h)
                  have hc1 := HFb.out.cell hc10 (fun h => h)
                  have HC2 := hide hc20
                  have HMc2 := HMc
                  rw [hAi] at hci
                  rw [hAl] at HMc2
                  have hb : (v != v) = false := by simp
                  clear hAi hAl hc10 hc20
                  go_wp2_with (first
                    | (go_at_call 60; have mk := HF20.out; clear mk; refine (HVa.out _).mono ?_; rintro en w21 ⟨rfl, nq, hw⟩; have HF21 : Hid (Fr No wi w21) := hide (HF20.out.tr (by rw [hw]; exact (Fr.refl No w20).drewN nq)); clear hw)
                    | (go_at_call 60; refine (HVa.out _).mono ?_; rintro en w20 ⟨rfl, nq, hw⟩; have hf20 : Fr No wi w20 := HFb.out.tr (by rw [hw]; exact (Fr.refl No wb).drewN nq); have HF20 := hide hf20; have k1 := hf20.cell HMc2.out (fun h => h); have k2 := hf20.cell HC2.out (fun h => h); clear hw hf20 hci hc1))
                  go_roundw
                  case rel => exact ⟨k + 1, by omega, by go_num, HF21⟩
                  case measure => simp [intOf]; omega
                · go_wp2
                  go_loopw [12] (fun k' wq => ∃ k : Nat, k ≤ 30 ∧ k' = .int .i64 k ∧ Hid (Fr No wi wq)) (fun k' _ => 30 - (intOf k').toNat)
                  case atStart => exact ⟨0, by omega, rfl, HFb⟩
                  case round =>
                    obtain ⟨wc, rfl⟩ : ∃ wc : World, wc = wr := ⟨_, rfl⟩
                    clear hkl hk
                    obtain ⟨k, hk, rfl, HFc⟩ := hrel
                    by_cases hkl : k < 30
                    · obtain ⟨v, hv⟩ : ∃ v : Int, v = 500000 + 1000 * (i : Int) + (k : Int) := ⟨_, rfl⟩
                      have ev : 500000 + 1000 * (i : Int) + (k : Int) = v := hv.symm
                      have hv0 : 0 ≤ v := by omega
                      have hv1 : v ≤ 200000000 := by omega
                      have HVa := hide (fun W => value4_any (500000 + 1000 * i + k) W (by omega))
                      rw [show ((500000 + 1000 * i + k : Nat) : Int) = v by omega] at HVa
                      obtain ⟨T, hT⟩ : ∃ T : ByteArray, T = ⟨(txt4 (500000 + 1000 * i + k)).toArray⟩ := ⟨_, rfl⟩
                      rw [← hT] at HVa
                      have HMk : Hid ((mk2S i)[k]? = some (.string T)) := hide (by rw [hT]; exact mk2S_at hkl)
                      clear hv hT
                      obtain ⟨bd, hAl, _, hc20⟩ := LR.out (N i + k) (.string T) (by
                        rw [List.getElem?_append_right (by rw [mk1S_len]; omega), mk1S_len, Nat.add_sub_cancel_left]
                        exact HMk.out)
                      have hmc := HFc.out.cell HMc.out (fun h => h)
                      have hc2 := HFc.out.cell hc20 (fun h => h)
                      rw [hAl] at hmc
                      have hb : (v != v) = false := by simp
                      have t1 : ((N i : Int) + (k : Int)).toNat = N i + k := by omega
                      clear hAl hc20
                      go_wp2_with (go_at_call 60; refine (HVa.out _).mono ?_; rintro en w20 ⟨rfl, nq, hw⟩; have HF20 : Hid (Fr No wi w20) := hide (HFc.out.tr (by rw [hw]; exact (Fr.refl No wc).drewN nq)); clear hw)
                      go_roundw
                      case rel => exact ⟨k + 1, by omega, by go_num, HF20⟩
                      case measure => simp [intOf]; omega
                    · go_wp2
                      go_roundw
                      case rel => exact ⟨i + 1, by omega, by go_num, HFc⟩
                      case measure => simp [intOf]; omega
            · go_wp2
              go_ret
              exact ⟨rfl, FW.out.trans HFa.out (fun _ _ h => h.elim)⟩
end
end Go.Proofs.YtnjcncidlhllmaaGreat
namespace Go.Proofs.YtnjcncidlhllmaaGreat
set_option linter.unusedVariables false
set_option linter.unusedSimpArgs false
open Go.RowKit

/-- slices of bytes that were handed out: each of its own memory. -/
structure ValsN (w : World) (base : Nat) (vals : List Value) (bss : List (List Int)) : Prop where
  len : vals.length = bss.length
  own : ∀ (j : Nat) (v : Value) (bs : List Int), vals[j]? = some v → bss[j]? = some bs → Own w base 3 1 v bs.length (iz .i64 bs)
  dis : ∀ (i j : Nat) (vi vj : Value), i < j → vals[i]? = some vi → vals[j]? = some vj → ∀ k, vi.ownBlock = some k → vj.ownBlock ≠ some k
section
variable {S : Nat → Prop} {w w' : World} {base : Nat} {vals : List Value} {bss : List (List Int)}
theorem ValsN.nil (w : World) (base : Nat) : ValsN w base [] [] := ⟨rfl, fun j v bs h => by simp at h, fun i j vi vj _ h => by simp at h⟩
theorem ValsN.get (h : ValsN w base vals bss) {j : Nat} {v : Value} (hv : vals[j]? = some v) : ∃ bs, bss[j]? = some bs ∧ Own w base 3 1 v bs.length (iz .i64 bs) := by
  have hj := (List.getElem?_eq_some_iff.1 hv).1
  rw [h.len] at hj
  exact ⟨_, List.getElem?_eq_getElem hj, h.own j v _ hv (List.getElem?_eq_getElem hj)⟩
theorem ValsN.fr (h : ValsN w base vals bss) (f : Fr S w w') (hS : ∀ (j : Nat) v, vals[j]? = some v → ∀ k, v.ownBlock = some k → ¬ S k) : ValsN w' base vals bss :=
  ⟨h.len, fun j v bs hv hb => (h.own j v bs hv hb).fr f (hS j v hv), h.dis⟩
theorem ValsN.fr0 (h : ValsN w base vals bss) (f : Fr No w w') : ValsN w' base vals bss := h.fr f (fun _ _ _ _ _ h => h)
theorem ValsN.above (h : ValsN w base vals bss) (f : Fr S w w') (hS : ∀ k, S k → k < base) : ValsN w' base vals bss := h.fr f (fun j v hv k hk e => by
  obtain ⟨bs, _, ho⟩ := h.get hv
  have := (ho.lt k hk).1
  have := hS k e
  omega)
theorem ValsN.other {b2 e2 s2 n2 : Nat} {v2 : Value} {xs2 : List Value} (h : ValsN w base vals bss) (o : Own w b2 e2 s2 v2 n2 xs2) (hne : 3 ≠ e2) (f : Fr (fun k => v2.ownBlock = some k) w w') : ValsN w' base vals bss := h.fr f (fun j v hv k hk e => by
  obtain ⟨bs, _, ho⟩ := h.get hv
  exact ho.apart o hne k hk e)
theorem ValsN.lower {b2 : Nat} (h : ValsN w base vals bss) (hb : b2 ≤ base) : ValsN w b2 vals bss := ⟨h.len, fun j v bs hv hb' => (h.own j v bs hv hb').lower hb, h.dis⟩
theorem ValsN.snoc {w0 : World} {v : Value} {bs : List Int} (h0 : ValsN w0 base vals bss) (h : ValsN w base vals bss) (o : Own w w0.heap.size 3 1 v bs.length (iz .i64 bs)) (hb : base ≤ w0.heap.size) : ValsN w base (vals ++ [v]) (bss ++ [bs]) := by
  have hl := h.len
  refine ⟨by simp [hl], ?_, ?_⟩
  · intro j v' bs' hv hb'
    by_cases hj : j < vals.length
    · rw [List.getElem?_append_left hj] at hv
      rw [List.getElem?_append_left (by omega)] at hb'
      exact h.own j v' bs' hv hb'
    · have hj1 := (List.getElem?_eq_some_iff.1 hv).1
      have e1 : j = vals.length := by simp at hj1; omega
      subst e1
      rw [List.getElem?_append_right (Nat.le_refl _), Nat.sub_self] at hv
      rw [hl, List.getElem?_append_right (Nat.le_refl _), Nat.sub_self] at hb'
      simp at hv hb'
      subst hv; subst hb'
      exact o.lower hb
  · intro i j vi vj hij hi hj k hk
    have hj1 := (List.getElem?_eq_some_iff.1 hj).1
    by_cases hjl : j < vals.length
    · rw [List.getElem?_append_left (by omega)] at hi
      rw [List.getElem?_append_left hjl] at hj
      exact h.dis i j vi vj hij hi hj k hk
    · have e1 : j = vals.length := by simp at hj1; omega
      subst e1
      rw [List.getElem?_append_left hij] at hi
      rw [List.getElem?_append_right (Nat.le_refl _), Nat.sub_self] at hj
      simp at hj
      subst hj
      intro hk2
      obtain ⟨bs', _, ho⟩ := h0.get hi
      have h1 := (ho.lt k hk).2
      have h2 := (o.lt k hk2).1
      omega
end
def vA : Value → Option Addr | .slice a _ _ => a | _ => none
def vN : Value → Nat | .slice _ n _ => n | _ => 0
def vC : Value → Nat | .slice _ _ c => c | _ => 0

set_option maxRecDepth 100000 in
set_option maxHeartbeats 800000 in
theorem apartI64_nil (w : World) : Calls Tryz.prog 20 #[.slice none 0 0] w (RetB true w) := by
  go_enter Tryz.func20, Tryz.ntmps20
  go_wp2
  go_loop [3] (fun i => i = .int .i64 0) (fun _ => 0)
  case atStart => rfl
  case round =>
    subst hrel
    go_wp2
    go_loop [6] (fun i => i = .int .i64 0) (fun _ => 0)
    case atStart => rfl
    case round =>
      subst hrel
      go_wp2
      go_loop [9] (fun i => i = .int .i64 0) (fun _ => 0)
      case atStart => rfl
      case round =>
        subst hrel
        go_wp2
        go_ret
        exact ⟨rfl, Fr.refl _ _⟩

theorem apartI64_vals (A : Option Addr) (n c base : Nat) (vals : List Value) (bss : List (List Int)) (W : World) (o : Own W base 41 1 (.slice A n c) n vals) (V : ValsI W base vals bss) (hn : n ≤ 100000) (hb : ∀ b ∈ bss, b.length ≤ 2097152) :
    Calls Tryz.prog 20 #[.slice A n c] W (fun en w' => en = .returned (.bool true) ∧ Fr (fun k => ∃ (j : Nat) (v : Value), vals[j]? = some v ∧ v.ownBlock = some k) W w') := by
  have hvl := o.1
  rw [Nat.mul_one] at hvl
  obtain ⟨_, A', c', hv, h1, h2, hA⟩ := o
  injection hv with e1 e2 e3
  subst e1; subst e3
  rcases hA with ⟨rfl, rfl⟩ | ⟨g, cur, rfl, _, hh, hcs, ht⟩
  · obtain rfl : n = 0 := by omega
    exact (apartI64_nil W).mono fun en w' ⟨he, hf⟩ => ⟨he, hf.any _⟩
  · have hget : ∀ j, j < n → ∃ v bs, vals[j]? = some v ∧ bss[j]? = some bs ∧ v = .slice (vA v) (vN v) (vC v) ∧ vN v = bs.length ∧ Own W base 2 1 (.slice (vA v) (vN v) (vC v)) (vN v) (iz .i64 bs) := by
      intro j hj
      have hv : vals[j]? = some (vals[j]'(by omega)) := List.getElem?_eq_getElem _
      obtain ⟨bs, hbs, ho⟩ := V.get hv
      obtain ⟨A2, c2, e, _⟩ := ho.form
      refine ⟨_, bs, hv, hbs, ?_, ?_, ?_⟩
      · rw [e]; rfl
      · rw [e]; rfl
      · rw [e] at ho ⊢; exact ho
    have hcell : ∀ j, j < n → cur[j]? = some (.slice (vA (vals.getD j (.slice none 0 0))) (vN (vals.getD j (.slice none 0 0))) (vC (vals.getD j (.slice none 0 0)))) := by
      intro j hj
      obtain ⟨v, bs, hv, _, e, _⟩ := hget j hj
      have h3 : vals.getD j (.slice none 0 0) = v := by simp [hv]
      rw [h3, ← e, ← hv, ← ht, List.getElem?_take, if_pos (by omega)]
      simp
    refine (apartI64_any g n c (fun j => vA (vals.getD j (.slice none 0 0))) (fun j => vN (vals.getD j (.slice none 0 0))) (fun j => vC (vals.getD j (.slice none 0 0))) cur W base (fun j => iz .i64 (bss.getD j [])) hn ?_ h1 h2 hh hcell ?_ ⟨?_⟩).mono ?_
    · intro j hj
      obtain ⟨v, bs, hv, hbs, _, e2, _⟩ := hget j hj
      have h3 : vals.getD j (.slice none 0 0) = v := by simp [hv]
      show vN (vals.getD j (.slice none 0 0)) ≤ _
      rw [h3, e2]
      exact hb bs (List.mem_of_getElem? hbs)
    · intro j hj
      obtain ⟨v, bs, hv, hbs, _, _, ho⟩ := hget j hj
      have h3 : vals.getD j (.slice none 0 0) = v := by simp [hv]
      have h4 : bss.getD j [] = bs := by simp [hbs]
      show Own W base _ 1 (.slice (vA (vals.getD j (.slice none 0 0))) (vN (vals.getD j (.slice none 0 0))) (vC (vals.getD j (.slice none 0 0)))) (vN (vals.getD j (.slice none 0 0))) (iz .i64 (bss.getD j []))
      rw [h3, h4]
      exact ho
    · intro i j hi hj hij k hk
      obtain ⟨vi, _, hvi, _, ei, _⟩ := hget i hi
      obtain ⟨vj, _, hvj, _, ej, _⟩ := hget j hj
      have h3 : vals.getD i (.slice none 0 0) = vi := by simp [hvi]
      have h4 : vals.getD j (.slice none 0 0) = vj := by simp [hvj]
      simp only [h3, h4, ← ei, ← ej] at hk ⊢
      rcases Nat.lt_or_gt_of_ne hij with h | h
      · exact V.dis i j vi vj h hvi hvj k hk
      · exact fun e => V.dis j i vj vi h hvj hvi k e hk
    · rintro en w' ⟨he, hf⟩
      refine ⟨he, hf.mono ?_⟩
      rintro k _ ⟨j, hj, hk⟩
      obtain ⟨v, _, hv, _, e, _⟩ := hget j hj
      have h3 : vals.getD j (.slice none 0 0) = v := by simp [hv]
      simp only [h3, ← e] at hk
      exact ⟨j, v, hv, hk⟩

set_option maxRecDepth 100000 in
set_option maxHeartbeats 800000 in
theorem apartS_nil (w : World) : Calls Tryz.prog 21 #[.slice none 0 0] w (RetB true w) := by
  go_enter Tryz.func21, Tryz.ntmps21
  go_wp2
  go_loop [3] (fun i => i = .int .i64 0) (fun _ => 0)
  case atStart => rfl
  case round =>
    subst hrel
    go_wp2
    go_loop [6] (fun i => i = .int .i64 0) (fun _ => 0)
    case atStart => rfl
    case round =>
      subst hrel
      go_wp2
      go_loop [9] (fun i => i = .int .i64 0) (fun _ => 0)
      case atStart => rfl
      case round =>
        subst hrel
        go_wp2
        go_ret
        exact ⟨rfl, Fr.refl _ _⟩

theorem apartS_vals (A : Option Addr) (n c base : Nat) (vals : List Value) (bss : List (List Tx)) (W : World) (o : Own W base 43 1 (.slice A n c) n vals) (V : ValsT W base vals bss) (hn : n ≤ 1000) (hb : ∀ b ∈ bss, b.length ≤ 10000) :
    Calls Tryz.prog 21 #[.slice A n c] W (fun en w' => en = .returned (.bool true) ∧ Fr (fun k => ∃ (j : Nat) (v : Value), vals[j]? = some v ∧ v.ownBlock = some k) W w') := by
  have hvl := o.1
  rw [Nat.mul_one] at hvl
  obtain ⟨_, A', c', hv, h1, h2, hA⟩ := o
  injection hv with e1 e2 e3
  subst e1; subst e3
  rcases hA with ⟨rfl, rfl⟩ | ⟨g, cur, rfl, _, hh, hcs, ht⟩
  · obtain rfl : n = 0 := by omega
    exact (apartS_nil W).mono fun en w' ⟨he, hf⟩ => ⟨he, hf.any _⟩
  · have hget : ∀ j, j < n → ∃ v bs, vals[j]? = some v ∧ bss[j]? = some bs ∧ v = .slice (vA v) (vN v) (vC v) ∧ vN v = bs.length ∧ Own W base 9 1 (.slice (vA v) (vN v) (vC v)) (vN v) (svs bs) := by
      intro j hj
      have hv : vals[j]? = some (vals[j]'(by omega)) := List.getElem?_eq_getElem _
      obtain ⟨bs, hbs, ho⟩ := V.get hv
      obtain ⟨A2, c2, e, _⟩ := ho.form
      refine ⟨_, bs, hv, hbs, ?_, ?_, ?_⟩
      · rw [e]; rfl
      · rw [e]; rfl
      · rw [e] at ho ⊢; exact ho
    have hcell : ∀ j, j < n → cur[j]? = some (.slice (vA (vals.getD j (.slice none 0 0))) (vN (vals.getD j (.slice none 0 0))) (vC (vals.getD j (.slice none 0 0)))) := by
      intro j hj
      obtain ⟨v, bs, hv, _, e, _⟩ := hget j hj
      have h3 : vals.getD j (.slice none 0 0) = v := by simp [hv]
      rw [h3, ← e, ← hv, ← ht, List.getElem?_take, if_pos (by omega)]
      simp
    refine (apartS_any g n c (fun j => vA (vals.getD j (.slice none 0 0))) (fun j => vN (vals.getD j (.slice none 0 0))) (fun j => vC (vals.getD j (.slice none 0 0))) cur W base (fun j => svs (bss.getD j [])) hn ?_ h1 h2 hh hcell ?_ ⟨?_⟩).mono ?_
    · intro j hj
      obtain ⟨v, bs, hv, hbs, _, e2, _⟩ := hget j hj
      have h3 : vals.getD j (.slice none 0 0) = v := by simp [hv]
      show vN (vals.getD j (.slice none 0 0)) ≤ _
      rw [h3, e2]
      exact hb bs (List.mem_of_getElem? hbs)
    · intro j hj
      obtain ⟨v, bs, hv, hbs, _, _, ho⟩ := hget j hj
      have h3 : vals.getD j (.slice none 0 0) = v := by simp [hv]
      have h4 : bss.getD j [] = bs := by simp [hbs]
      show Own W base _ 1 (.slice (vA (vals.getD j (.slice none 0 0))) (vN (vals.getD j (.slice none 0 0))) (vC (vals.getD j (.slice none 0 0)))) (vN (vals.getD j (.slice none 0 0))) (svs (bss.getD j []))
      rw [h3, h4]
      exact ho
    · intro i j hi hj hij k hk
      obtain ⟨vi, _, hvi, _, ei, _⟩ := hget i hi
      obtain ⟨vj, _, hvj, _, ej, _⟩ := hget j hj
      have h3 : vals.getD i (.slice none 0 0) = vi := by simp [hvi]
      have h4 : vals.getD j (.slice none 0 0) = vj := by simp [hvj]
      simp only [h3, h4, ← ei, ← ej] at hk ⊢
      rcases Nat.lt_or_gt_of_ne hij with h | h
      · exact V.dis i j vi vj h hvi hvj k hk
      · exact fun e => V.dis j i vj vi h hvj hvi k e hk
    · rintro en w' ⟨he, hf⟩
      refine ⟨he, hf.mono ?_⟩
      rintro k _ ⟨j, hj, hk⟩
      obtain ⟨v, _, hv, _, e, _⟩ := hget j hj
      have h3 : vals.getD j (.slice none 0 0) = v := by simp [hv]
      simp only [h3, ← e] at hk
      exact ⟨j, v, hv, hk⟩

set_option maxRecDepth 100000 in
set_option maxHeartbeats 800000 in
theorem apartInt_nil (w : World) : Calls Tryz.prog 22 #[.slice none 0 0] w (RetB true w) := by
  go_enter Tryz.func22, Tryz.ntmps22
  go_wp2
  go_loop [3] (fun i => i = .int .i64 0) (fun _ => 0)
  case atStart => rfl
  case round =>
    subst hrel
    go_wp2
    go_loop [6] (fun i => i = .int .i64 0) (fun _ => 0)
    case atStart => rfl
    case round =>
      subst hrel
      go_wp2
      go_loop [9] (fun i => i = .int .i64 0) (fun _ => 0)
      case atStart => rfl
      case round =>
        subst hrel
        go_wp2
        go_ret
        exact ⟨rfl, Fr.refl _ _⟩

theorem apartInt_vals (A : Option Addr) (n c base : Nat) (vals : List Value) (bss : List (List Int)) (W : World) (o : Own W base 45 1 (.slice A n c) n vals) (V : ValsN W base vals bss) (hn : n ≤ 100000) (hb : ∀ b ∈ bss, b.length ≤ 2097152) :
    Calls Tryz.prog 22 #[.slice A n c] W (fun en w' => en = .returned (.bool true) ∧ Fr (fun k => ∃ (j : Nat) (v : Value), vals[j]? = some v ∧ v.ownBlock = some k) W w') := by
  have hvl := o.1
  rw [Nat.mul_one] at hvl
  obtain ⟨_, A', c', hv, h1, h2, hA⟩ := o
  injection hv with e1 e2 e3
  subst e1; subst e3
  rcases hA with ⟨rfl, rfl⟩ | ⟨g, cur, rfl, _, hh, hcs, ht⟩
  · obtain rfl : n = 0 := by omega
    exact (apartInt_nil W).mono fun en w' ⟨he, hf⟩ => ⟨he, hf.any _⟩
  · have hget : ∀ j, j < n → ∃ v bs, vals[j]? = some v ∧ bss[j]? = some bs ∧ v = .slice (vA v) (vN v) (vC v) ∧ vN v = bs.length ∧ Own W base 3 1 (.slice (vA v) (vN v) (vC v)) (vN v) (iz .i64 bs) := by
      intro j hj
      have hv : vals[j]? = some (vals[j]'(by omega)) := List.getElem?_eq_getElem _
      obtain ⟨bs, hbs, ho⟩ := V.get hv
      obtain ⟨A2, c2, e, _⟩ := ho.form
      refine ⟨_, bs, hv, hbs, ?_, ?_, ?_⟩
      · rw [e]; rfl
      · rw [e]; rfl
      · rw [e] at ho ⊢; exact ho
    have hcell : ∀ j, j < n → cur[j]? = some (.slice (vA (vals.getD j (.slice none 0 0))) (vN (vals.getD j (.slice none 0 0))) (vC (vals.getD j (.slice none 0 0)))) := by
      intro j hj
      obtain ⟨v, bs, hv, _, e, _⟩ := hget j hj
      have h3 : vals.getD j (.slice none 0 0) = v := by simp [hv]
      rw [h3, ← e, ← hv, ← ht, List.getElem?_take, if_pos (by omega)]
      simp
    refine (apartInt_any g n c (fun j => vA (vals.getD j (.slice none 0 0))) (fun j => vN (vals.getD j (.slice none 0 0))) (fun j => vC (vals.getD j (.slice none 0 0))) cur W base (fun j => iz .i64 (bss.getD j [])) hn ?_ h1 h2 hh hcell ?_ ⟨?_⟩).mono ?_
    · intro j hj
      obtain ⟨v, bs, hv, hbs, _, e2, _⟩ := hget j hj
      have h3 : vals.getD j (.slice none 0 0) = v := by simp [hv]
      show vN (vals.getD j (.slice none 0 0)) ≤ _
      rw [h3, e2]
      exact hb bs (List.mem_of_getElem? hbs)
    · intro j hj
      obtain ⟨v, bs, hv, hbs, _, _, ho⟩ := hget j hj
      have h3 : vals.getD j (.slice none 0 0) = v := by simp [hv]
      have h4 : bss.getD j [] = bs := by simp [hbs]
      show Own W base _ 1 (.slice (vA (vals.getD j (.slice none 0 0))) (vN (vals.getD j (.slice none 0 0))) (vC (vals.getD j (.slice none 0 0)))) (vN (vals.getD j (.slice none 0 0))) (iz .i64 (bss.getD j []))
      rw [h3, h4]
      exact ho
    · intro i j hi hj hij k hk
      obtain ⟨vi, _, hvi, _, ei, _⟩ := hget i hi
      obtain ⟨vj, _, hvj, _, ej, _⟩ := hget j hj
      have h3 : vals.getD i (.slice none 0 0) = vi := by simp [hvi]
      have h4 : vals.getD j (.slice none 0 0) = vj := by simp [hvj]
      simp only [h3, h4, ← ei, ← ej] at hk ⊢
      rcases Nat.lt_or_gt_of_ne hij with h | h
      · exact V.dis i j vi vj h hvi hvj k hk
      · exact fun e => V.dis j i vj vi h hvj hvi k e hk
    · rintro en w' ⟨he, hf⟩
      refine ⟨he, hf.mono ?_⟩
      rintro k _ ⟨j, hj, hk⟩
      obtain ⟨v, _, hv, _, e, _⟩ := hget j hj
      have h3 : vals.getD j (.slice none 0 0) = v := by simp [hv]
      simp only [h3, ← e] at hk
      exact ⟨j, v, hv, hk⟩

end Go.Proofs.YtnjcncidlhllmaaGreat
namespace Go.Proofs.YtnjcncidlhllmaaGreat
set_option linter.unusedVariables false
set_option linter.unusedSimpArgs false
open Go.RowKit

/-- blocks of memory that cells of the type e fill. -/
def OfT (w : World) (e : TypeId) (g : Nat) : Prop := ∃ b n v xs, Own w b e 1 v n xs ∧ v.ownBlock = some g
theorem ColM.frB {S : Nat → Prop} {w w' : World} {B G n : Nat} {bits : List UInt8} {lens all : List Int} (h : ColM w B G bits lens all n) (hG : G < B) (f : Fr S w w') (hS : ∀ k, k < B → ¬ S k) : ColM w' B G bits lens all n := by
  obtain ⟨A1, c1, A2, c2, h1, h2, h3, h4, h5, h6, h7, h8⟩ := h.cell
  exact ⟨⟨A1, c1, A2, c2, f.cell h1 (hS _ hG), f.cell h2 (hS _ hG), h3, h4, h5, h6, h7.fr f hS, h8.fr f hS⟩, h.fit⟩
theorem ColM.lt {w : World} {B G n : Nat} {bits : List UInt8} {lens all : List Int} (h : ColM w B G bits lens all n) : G < w.heap.size := by
  obtain ⟨A1, c1, A2, c2, h1, _⟩ := h.cell
  exact World.block_lt_of_cell? w _ h1

def RowLv (w : World) (base : Nat) (v : Value) (k : Nat) (vals : List Value) (rows : List (List Int)) : Prop := Own w base 41 1 v k vals ∧ ValsI w base vals rows ∧ ∀ l ∈ rows, l.length ≤ 64
theorem RowLv.fr0 {w w' : World} {base k : Nat} {v : Value} {vals : List Value} {rows : List (List Int)} (h : RowLv w base v k vals rows) (f : Fr No w w') : RowLv w' base v k vals rows := ⟨h.1.fr0 f, h.2.1.fr0 f, h.2.2⟩
theorem RowLv.off {S : Nat → Prop} {w w' : World} {base k e : Nat} {v : Value} {vals : List Value} {rows : List (List Int)} (h : RowLv w base v k vals rows) (f : Fr S w w') (hS : ∀ g, S g → OfT w e g) (n1 : 2 ≠ e) (n2 : 41 ≠ e) : RowLv w' base v k vals rows := by
  obtain ⟨h1, h2, h3⟩ := h
  refine ⟨h1.fr f (fun g hg hs => ?_), h2.fr f (fun j u hu g hg hs => ?_), h3⟩
  · obtain ⟨b, n, x, xs, ho, hx⟩ := hS g hs
    exact h1.apart ho n2 g hg hx
  · obtain ⟨b, n, x, xs, ho, hx⟩ := hS g hs
    obtain ⟨_, _, hu⟩ := h2.get hu
    exact hu.apart ho n1 g hg hx
def RowL (w : World) (base : Nat) (v : Value) (k : Nat) : Prop := ∃ vals rows, RowLv w base v k vals rows
theorem RowL.nil (w : World) (base : Nat) : RowL w base (.slice none 0 0) 0 := ⟨[], [], Own.nil _ _ _ _, ValsI.nil _ _, fun l h => by simp at h⟩
theorem RowL.fr0 {w w' : World} {base k : Nat} {v : Value} (h : RowL w base v k) (f : Fr No w w') : RowL w' base v k := by
  obtain ⟨vals, rows, h⟩ := h
  exact ⟨vals, rows, h.fr0 f⟩
theorem RowL.off {S : Nat → Prop} {w w' : World} {base k e : Nat} {v : Value} (h : RowL w base v k) (f : Fr S w w') (hS : ∀ g, S g → OfT w e g) (n1 : 2 ≠ e) (n2 : 41 ≠ e) : RowL w' base v k := by
  obtain ⟨vals, rows, h⟩ := h
  exact ⟨vals, rows, h.off f hS n1 n2⟩
theorem RowL.step {w0 w5 w7 : World} {base k li c : Nat} {v v7 : Value} {A : Option Addr} {o : Obj} {l : List Int} {vals : List Value} {rows : List (List Int)} (h0 : RowLv w0 base v k vals rows) (h5 : RowLv w5 base v k vals rows) (hli : li ≤ 64) (hl : l.length = li)
    (hr : Own w5 w0.heap.size 2 1 (.slice A li c) li (iz .i64 l)) (h7 : Own w7 base 41 1 v7 (k + 1) (vals ++ [.slice A li c])) (fa : Fr (fun g => v.ownBlock = some g) (w5.alloc o) w7) (hb : base ≤ w0.heap.size) : RowL w7 base v7 (k + 1) := by
  subst hl
  have f6 := (Fr.refl No w5).alloc o
  have h6 := h5.fr0 f6
  have hr6 := hr.fr0 f6
  refine ⟨_, _, h7, ValsI.snoc h0.2.1 (h6.2.1.other h6.1 (by decide) fa) (hr6.fr fa (fun g hg hx => hr6.apart h6.1 (by decide) g hg hx)) hb, fun m hm => ?_⟩
  rcases List.mem_append.1 hm with h | h
  · exact h0.2.2 m h
  · rw [List.mem_singleton] at h; subst h; exact hli
theorem RowL.apart {w : World} {base k : Nat} {v : Value} (h : RowL w base v k) (hk : k ≤ 1000) : ∃ A c, v = .slice A k c ∧ c ≤ maxLen ∧ k ≤ c ∧ Calls Tryz.prog 20 #[.slice A k c] w (fun en w' => en = .returned (.bool true) ∧ Fr (fun g => base ≤ g ∧ OfT w 2 g) w w') := by
  obtain ⟨vals, rows, h1, h2, h3⟩ := h
  obtain ⟨A, c, rfl, q1, q2, _⟩ := h1.form
  refine ⟨A, c, rfl, q2, q1, (apartI64_vals A k c base vals rows w h1 h2 (by omega) (fun l hl => by have := h3 l hl; omega)).mono ?_⟩
  rintro en w' ⟨rfl, hf⟩
  refine ⟨rfl, hf.mono ?_⟩
  rintro g _ ⟨j, u, hu, hg⟩
  obtain ⟨bs, _, ho⟩ := h2.get hu
  exact ⟨(ho.lt g hg).1, _, _, _, _, ho, hg⟩
theorem RowL.ofT {w : World} {base k : Nat} {v : Value} {vals : List Value} (h : Own w base 41 1 v k vals) : ∀ g, v.ownBlock = some g → OfT w 41 g := fun g hg => ⟨_, _, _, _, h, hg⟩

def RowSv (w : World) (base : Nat) (v : Value) (k : Nat) (vals : List Value) (rows : List (List Tx)) : Prop := Own w base 43 1 v k vals ∧ ValsT w base vals rows ∧ ∀ l ∈ rows, l.length ≤ 64
theorem RowSv.fr0 {w w' : World} {base k : Nat} {v : Value} {vals : List Value} {rows : List (List Tx)} (h : RowSv w base v k vals rows) (f : Fr No w w') : RowSv w' base v k vals rows := ⟨h.1.fr0 f, h.2.1.fr0 f, h.2.2⟩
theorem RowSv.off {S : Nat → Prop} {w w' : World} {base k e : Nat} {v : Value} {vals : List Value} {rows : List (List Tx)} (h : RowSv w base v k vals rows) (f : Fr S w w') (hS : ∀ g, S g → OfT w e g) (n1 : 9 ≠ e) (n2 : 43 ≠ e) : RowSv w' base v k vals rows := by
  obtain ⟨h1, h2, h3⟩ := h
  refine ⟨h1.fr f (fun g hg hs => ?_), h2.fr f (fun j u hu g hg hs => ?_), h3⟩
  · obtain ⟨b, n, x, xs, ho, hx⟩ := hS g hs
    exact h1.apart ho n2 g hg hx
  · obtain ⟨b, n, x, xs, ho, hx⟩ := hS g hs
    obtain ⟨_, _, hu⟩ := h2.get hu
    exact hu.apart ho n1 g hg hx
def RowS (w : World) (base : Nat) (v : Value) (k : Nat) : Prop := ∃ vals rows, RowSv w base v k vals rows
theorem RowS.nil (w : World) (base : Nat) : RowS w base (.slice none 0 0) 0 := ⟨[], [], Own.nil _ _ _ _, ValsT.nil _ _, fun l h => by simp at h⟩
theorem RowS.fr0 {w w' : World} {base k : Nat} {v : Value} (h : RowS w base v k) (f : Fr No w w') : RowS w' base v k := by
  obtain ⟨vals, rows, h⟩ := h
  exact ⟨vals, rows, h.fr0 f⟩
theorem RowS.off {S : Nat → Prop} {w w' : World} {base k e : Nat} {v : Value} (h : RowS w base v k) (f : Fr S w w') (hS : ∀ g, S g → OfT w e g) (n1 : 9 ≠ e) (n2 : 43 ≠ e) : RowS w' base v k := by
  obtain ⟨vals, rows, h⟩ := h
  exact ⟨vals, rows, h.off f hS n1 n2⟩
theorem RowS.step {w0 w5 w7 : World} {base k li c : Nat} {v v7 : Value} {A : Option Addr} {o : Obj} {l : List Tx} {vals : List Value} {rows : List (List Tx)} (h0 : RowSv w0 base v k vals rows) (h5 : RowSv w5 base v k vals rows) (hli : li ≤ 64) (hl : l.length = li)
    (hr : Own w5 w0.heap.size 9 1 (.slice A li c) li (svs l)) (h7 : Own w7 base 43 1 v7 (k + 1) (vals ++ [.slice A li c])) (fa : Fr (fun g => v.ownBlock = some g) (w5.alloc o) w7) (hb : base ≤ w0.heap.size) : RowS w7 base v7 (k + 1) := by
  subst hl
  have f6 := (Fr.refl No w5).alloc o
  have h6 := h5.fr0 f6
  have hr6 := hr.fr0 f6
  refine ⟨_, _, h7, ValsT.snoc h0.2.1 (h6.2.1.other h6.1 (by decide) fa) (hr6.fr fa (fun g hg hx => hr6.apart h6.1 (by decide) g hg hx)) hb, fun m hm => ?_⟩
  rcases List.mem_append.1 hm with h | h
  · exact h0.2.2 m h
  · rw [List.mem_singleton] at h; subst h; exact hli
theorem RowS.apart {w : World} {base k : Nat} {v : Value} (h : RowS w base v k) (hk : k ≤ 1000) : ∃ A c, v = .slice A k c ∧ c ≤ maxLen ∧ k ≤ c ∧ Calls Tryz.prog 21 #[.slice A k c] w (fun en w' => en = .returned (.bool true) ∧ Fr (fun g => base ≤ g ∧ OfT w 9 g) w w') := by
  obtain ⟨vals, rows, h1, h2, h3⟩ := h
  obtain ⟨A, c, rfl, q1, q2, _⟩ := h1.form
  refine ⟨A, c, rfl, q2, q1, (apartS_vals A k c base vals rows w h1 h2 (by omega) (fun l hl => by have := h3 l hl; omega)).mono ?_⟩
  rintro en w' ⟨rfl, hf⟩
  refine ⟨rfl, hf.mono ?_⟩
  rintro g _ ⟨j, u, hu, hg⟩
  obtain ⟨bs, _, ho⟩ := h2.get hu
  exact ⟨(ho.lt g hg).1, _, _, _, _, ho, hg⟩
theorem RowS.ofT {w : World} {base k : Nat} {v : Value} {vals : List Value} (h : Own w base 43 1 v k vals) : ∀ g, v.ownBlock = some g → OfT w 43 g := fun g hg => ⟨_, _, _, _, h, hg⟩

def RowNv (w : World) (base : Nat) (v : Value) (k : Nat) (vals : List Value) (rows : List (List Int)) : Prop := Own w base 45 1 v k vals ∧ ValsN w base vals rows ∧ ∀ l ∈ rows, l.length ≤ 64
theorem RowNv.fr0 {w w' : World} {base k : Nat} {v : Value} {vals : List Value} {rows : List (List Int)} (h : RowNv w base v k vals rows) (f : Fr No w w') : RowNv w' base v k vals rows := ⟨h.1.fr0 f, h.2.1.fr0 f, h.2.2⟩
theorem RowNv.off {S : Nat → Prop} {w w' : World} {base k e : Nat} {v : Value} {vals : List Value} {rows : List (List Int)} (h : RowNv w base v k vals rows) (f : Fr S w w') (hS : ∀ g, S g → OfT w e g) (n1 : 3 ≠ e) (n2 : 45 ≠ e) : RowNv w' base v k vals rows := by
  obtain ⟨h1, h2, h3⟩ := h
  refine ⟨h1.fr f (fun g hg hs => ?_), h2.fr f (fun j u hu g hg hs => ?_), h3⟩
  · obtain ⟨b, n, x, xs, ho, hx⟩ := hS g hs
    exact h1.apart ho n2 g hg hx
  · obtain ⟨b, n, x, xs, ho, hx⟩ := hS g hs
    obtain ⟨_, _, hu⟩ := h2.get hu
    exact hu.apart ho n1 g hg hx
def RowN (w : World) (base : Nat) (v : Value) (k : Nat) : Prop := ∃ vals rows, RowNv w base v k vals rows
theorem RowN.nil (w : World) (base : Nat) : RowN w base (.slice none 0 0) 0 := ⟨[], [], Own.nil _ _ _ _, ValsN.nil _ _, fun l h => by simp at h⟩
theorem RowN.fr0 {w w' : World} {base k : Nat} {v : Value} (h : RowN w base v k) (f : Fr No w w') : RowN w' base v k := by
  obtain ⟨vals, rows, h⟩ := h
  exact ⟨vals, rows, h.fr0 f⟩
theorem RowN.off {S : Nat → Prop} {w w' : World} {base k e : Nat} {v : Value} (h : RowN w base v k) (f : Fr S w w') (hS : ∀ g, S g → OfT w e g) (n1 : 3 ≠ e) (n2 : 45 ≠ e) : RowN w' base v k := by
  obtain ⟨vals, rows, h⟩ := h
  exact ⟨vals, rows, h.off f hS n1 n2⟩
theorem RowN.step {w0 w5 w7 : World} {base k li c : Nat} {v v7 : Value} {A : Option Addr} {o : Obj} {l : List Int} {vals : List Value} {rows : List (List Int)} (h0 : RowNv w0 base v k vals rows) (h5 : RowNv w5 base v k vals rows) (hli : li ≤ 64) (hl : l.length = li)
    (hr : Own w5 w0.heap.size 3 1 (.slice A li c) li (iz .i64 l)) (h7 : Own w7 base 45 1 v7 (k + 1) (vals ++ [.slice A li c])) (fa : Fr (fun g => v.ownBlock = some g) (w5.alloc o) w7) (hb : base ≤ w0.heap.size) : RowN w7 base v7 (k + 1) := by
  subst hl
  have f6 := (Fr.refl No w5).alloc o
  have h6 := h5.fr0 f6
  have hr6 := hr.fr0 f6
  refine ⟨_, _, h7, ValsN.snoc h0.2.1 (h6.2.1.other h6.1 (by decide) fa) (hr6.fr fa (fun g hg hx => hr6.apart h6.1 (by decide) g hg hx)) hb, fun m hm => ?_⟩
  rcases List.mem_append.1 hm with h | h
  · exact h0.2.2 m h
  · rw [List.mem_singleton] at h; subst h; exact hli
theorem RowN.apart {w : World} {base k : Nat} {v : Value} (h : RowN w base v k) (hk : k ≤ 1000) : ∃ A c, v = .slice A k c ∧ c ≤ maxLen ∧ k ≤ c ∧ Calls Tryz.prog 22 #[.slice A k c] w (fun en w' => en = .returned (.bool true) ∧ Fr (fun g => base ≤ g ∧ OfT w 3 g) w w') := by
  obtain ⟨vals, rows, h1, h2, h3⟩ := h
  obtain ⟨A, c, rfl, q1, q2, _⟩ := h1.form
  refine ⟨A, c, rfl, q2, q1, (apartInt_vals A k c base vals rows w h1 h2 (by omega) (fun l hl => by have := h3 l hl; omega)).mono ?_⟩
  rintro en w' ⟨rfl, hf⟩
  refine ⟨rfl, hf.mono ?_⟩
  rintro g _ ⟨j, u, hu, hg⟩
  obtain ⟨bs, _, ho⟩ := h2.get hu
  exact ⟨(ho.lt g hg).1, _, _, _, _, ho, hg⟩
theorem RowN.ofT {w : World} {base k : Nat} {v : Value} {vals : List Value} (h : Own w base 45 1 v k vals) : ∀ g, v.ownBlock = some g → OfT w 45 g := fun g hg => ⟨_, _, _, _, h, hg⟩
end Go.Proofs.YtnjcncidlhllmaaGreat
