/- Several texts in one: ApartI64, StoAp0, StoAp1, StoAp2. -/
import Derived.Test.YtpnhnnhocekchaaK19
import Derived.Deep.RegionHeld3
namespace Go.Proofs.Ytpnhnnhocekchaa
set_option linter.unusedVariables false
set_option linter.unusedSimpArgs false
open Go.RowKit

theorem Try.infoEI64 : (Try.prog.info? 2).map (fun i => (i.zero, i.size, i.bytes)) = some (some (.int .i64 0), 1, 8) := by kernel_rfl
theorem Try.infoSI64 : (Try.prog.info? 41).map (fun i => (i.zero, i.size, i.bytes)) = some (some (.slice none 0 0), 1, 24) := by kernel_rfl
def mk1I64 (j n : Nat) : List Value := (List.range n).map fun k : Nat => .int .i64 (1000 * (j : Int) + (k : Int))
def mk2I64 (j : Nat) : List Value := (List.range 30).map fun k : Nat => .int .i64 (500000 + 1000 * (j : Int) + (k : Int))
theorem mk1I64_at {j n k : Nat} (h : k < n) : (mk1I64 j n)[k]? = some (.int .i64 (1000 * (j : Int) + (k : Int))) := by simp [mk1I64, List.getElem?_range h]
theorem mk2I64_at {j k : Nat} (h : k < 30) : (mk2I64 j)[k]? = some (.int .i64 (500000 + 1000 * (j : Int) + (k : Int))) := by simp [mk2I64, List.getElem?_range h]
theorem mk1I64_len (j n : Nat) : (mk1I64 j n).length = n := by simp [mk1I64]
theorem mk2I64_len (j : Nat) : (mk2I64 j).length = 30 := by simp [mk2I64]
section
variable (q m d : Nat) (A : Nat → Option Addr) (N C : Nat → Nat) (cs : Array Value) (W : World)
set_option maxRecDepth 100000 in
set_option maxHeartbeats 3200000 in
theorem apartI64_any (base : Nat) (Z : Nat → List Value) (hm : m ≤ 100000) (hN : ∀ j, j < m → N j ≤ 2097152) (hd : m ≤ d) (hd2 : d ≤ maxLen) (hq : W.heap[q]? = some (.cells cs 41 (0, 0))) (hcs : ∀ j, j < m → cs[j]? = some (.slice (A j) (N j) (C j)))
    (ho : Owns W base 2 m A N C Z) (ha : Apart m A N C) :
    Calls Try.prog 36 #[.slice (some ⟨q, 0, none⟩) m d] W (fun en w' => en = .returned (.bool true) ∧ Fr (Blocks m A N C) W w') := by
  unfold maxLen at hd2
  have HO := hide ho
  have HQ := hide hq
  have HCS := hide hcs
  have HN := hide hN
  have HA := hide ha
  clear ho hq hcs hN ha
  go_enter Try.func36, Try.ntmps36
  go_wp2
  go_loopw [3, 4] (fun i _ wr => ∃ (i' : Nat) (Z' : Nat → List Value), i' ≤ m ∧ i = .int .i64 i' ∧ Hid (Owns wr base 2 m A N C Z') ∧ Hid (∀ j, j < i' → Z' j = mk1I64 j (N j)) ∧ Hid (Fr (Blocks m A N C) W wr) ∧ Hid (wr.heap[q]? = some (.cells cs 41 (0, 0)))) (fun i _ _ => m - (intOf i).toNat)
  case atStart => exact ⟨0, Z, by omega, rfl, HO, hide (fun j h => by omega), hide (Fr.refl _ _), HQ⟩
  case round =>
    obtain ⟨i, Z1, hi, rfl, O1, M1, F1, Q1⟩ := hrel
    obtain ⟨wo, rfl⟩ : ∃ wo : World, wo = wr := ⟨_, rfl⟩
    by_cases hlt : i < m
    · have hNi := HN.out i hlt
      have HCI := hide (HCS.out i hlt)
      go_wp2
      go_loopw [4] (fun k' wr => ∃ (k : Nat) (Z' : Nat → List Value), k ≤ N i ∧ k' = .int .i64 k ∧ Hid (Owns wr base 2 m A N C Z') ∧ Hid (∀ j, j < i → Z' j = mk1I64 j (N j)) ∧ Hid ((Z' i).take k = (mk1I64 i (N i)).take k) ∧ Hid (Fr (Blocks m A N C) W wr) ∧ Hid (wr.heap[q]? = some (.cells cs 41 (0, 0)))) (fun k' _ => N i - (intOf k').toNat)
      case atStart => exact ⟨0, Z1, by omega, rfl, O1, M1, hide rfl, F1, Q1⟩
      case round =>
        obtain ⟨k, Z2, hk, rfl, O2, M2, T2, F2, Q2⟩ := hrel
        have hci := cell_of_row wr q i cs 41 (0, 0) Q2.out
        rw [HCI.out] at hci
        by_cases hkl : k < N i
        · obtain ⟨g, hAi, hgl, hcell, hfz, hne, hst⟩ := O2.out.store HA.out hlt hkl
          rw [hAi] at hci
          have HST := hide hst
          have HNE := hide (hne q cs _ _ Q2.out (by decide))
          clear hst hne
          obtain ⟨u0, hu0⟩ : ∃ u, (Z2 i)[k]? = some u := ⟨_, List.getElem?_eq_getElem (by have := (O2.out i hlt).1; omega)⟩
          rw [hu0] at hcell
          have HAi := hide hAi
          obtain ⟨v, hv⟩ : ∃ v : Int, v = 1000 * (i : Int) + (k : Int) := ⟨_, rfl⟩
          have ev : 1000 * (i : Int) + (k : Int) = v := hv.symm
          have hv0 : 0 ≤ v := by omega
          have hv1 : v ≤ 200000000 := by omega
          have HMk : Hid ((mk1I64 i (N i))[k]? = some (.int .i64 v)) := hide (by rw [hv]; exact mk1I64_at hkl)
          clear hv
          have HT := hide (take_set_snoc T2.out HMk.out (by have := (O2.out i hlt).1; omega))
          clear hAi hu0
          go_wp2
          go_roundw
          case rel => exact ⟨k + 1, _, by omega, by go_num, hide (HST.out _).1, hide (fun j hj => by rw [upd_other _ _ (by omega)]; exact M2.out j hj), hide (by rw [upd_same]; exact HT.out), hide (F2.out.ts (HST.out _).2), hide ((Fr.refl (Is g) wr).setCell (p := ⟨g, k, none⟩) (fun _ => rfl) _ |>.blk Q2.out (fun e => HNE.out e.symm))⟩
          case measure => simp [intOf]; omega
        · have hkN : k = N i := by omega
          go_wp2
          go_roundw
          case rel =>
            refine ⟨i + 1, Z2, by omega, by go_num, O2, hide (fun j hj => ?_), F2, Q2⟩
            by_cases hji : j = i
            · subst hji
              have h := T2.out
              rwa [List.take_of_length_le (by have := (O2.out j hlt).1; omega), List.take_of_length_le (by rw [mk1I64_len]; omega)] at h
            · exact M2.out j (by omega)
          case measure => simp [intOf]; omega
    · have O2 : Hid (∀ j, j < m → Own wo 0 2 1 (.slice (A j) (N j) (C j)) (N j) (mk1I64 j (N j))) := fun j hj => by
        have h := O1.out j hj
        rw [M1.out j (by omega)] at h
        exact h.lower (Nat.zero_le _)
      have LT : Hid (∀ j, j < m → ∀ k, (Value.slice (A j) (N j) (C j)).ownBlock = some k → k < W.heap.size) := fun j hj k hk => ((HO.out j hj).lt k hk).2
      have QW : Hid (q < W.heap.size) := (Array.getElem?_eq_some_iff.1 HQ.out).1
      have QN : Hid (∀ j, j < m → (Value.slice (A j) (N j) (C j)).ownBlock ≠ some q) := fun j hj hk => (HO.out j hj).ne_blk hk HQ.out (by decide)
      have hW := F1.out.size
      obtain ⟨i1, hi1, hz1, hs1, hb1⟩ := info_parts Try.infoEI64
      obtain ⟨i2, hi2, hz2, hs2, hb2⟩ := info_parts Try.infoSI64
      clear O1 M1 HO HQ
      go_wp2
      go_loopw [5, 6, 7, 8] (fun more i' _ _ wr => ∃ (i : Nat) (L : Nat → Value), i ≤ m ∧ i' = .int .i64 i ∧ Hid (Own wr W.heap.size 41 1 more i ((List.range i).map L))
          ∧ Hid (∀ j, i ≤ j → j < m → Own wr 0 2 1 (.slice (A j) (N j) (C j)) (N j) (mk1I64 j (N j)))
          ∧ Hid (∀ j, j < m → Rd wr W.heap.size (A j) (mk1I64 j (N j)))
          ∧ Hid (∀ j, j < i → Own wr 0 2 1 (L j) (N j + 30) (mk1I64 j (N j) ++ mk2I64 j))
          ∧ Hid (∀ j, j < i → ∀ j', i ≤ j' → j' < m → ∀ k, (Value.slice (A j') (N j') (C j')).ownBlock = some k → (L j).ownBlock ≠ some k)
          ∧ Hid (Fr (Blocks m A N C) W wr) ∧ Hid (wr.heap[q]? = some (.cells cs 41 (0, 0)))) (fun _ i _ _ _ => m - (intOf i).toNat)
      case atStart =>
        refine ⟨0, fun _ => undef, by omega, rfl, hide (Own.nil _ _ _ _), hide (fun j _ hj => O2.out j hj), hide (fun j hj => ?_), hide (fun j hj => by omega), hide (fun j hj => by omega), F1, Q1⟩
        have h := (O2.out j hj).rd
        intro x u hu
        obtain ⟨ad, e, hb, hc⟩ := h x u hu
        exact ⟨ad, e, LT.out j hj _ (by rw [e]; rfl), hc⟩
      case round =>
        obtain ⟨i, L, hi, rfl, OM, OV, RV, OL, DL, FW, QQ⟩ := hrel
        obtain ⟨wi, rfl⟩ : ∃ wi : World, wi = wr := ⟨_, rfl⟩
        clear hlt
        by_cases hlt : i < m
        · have hNi := HN.out i hlt
          have hci := cell_of_row wi q i cs 41 (0, 0) QQ.out
          rw [HCS.out i hlt] at hci
          have hWi := FW.out.size
          have AI := hide (OV.out i (Nat.le_refl _) hlt).mem
          go_wp2
          go_loopw [7, 8] (fun l k' wr => ∃ (k : Nat), k ≤ 30 ∧ k' = .int .i64 k ∧ Hid (Own wr 0 2 1 l (N i + k) (mk1I64 i (N i) ++ (mk2I64 i).take k))
              ∧ Hid (l.ownBlock = (Value.slice (A i) (N i) (C i)).ownBlock ∨ ∀ g, l.ownBlock = some g → wi.heap.size ≤ g)
              ∧ Hid (Rd wr W.heap.size (A i) (mk1I64 i (N i))) ∧ Hid (Fr (fun k => (Value.slice (A i) (N i) (C i)).ownBlock = some k) wi wr)) (fun _ k' _ => 30 - (intOf k').toNat)
          case atStart => exact ⟨0, by omega, rfl, hide (by simpa using OV.out i (Nat.le_refl _) hlt), hide (.inl rfl), hide (RV.out i hlt), hide (Fr.refl _ _)⟩
          case round =>
            obtain ⟨k, hk, rfl, I1, I2, I3, I4⟩ := hrel
            by_cases hkl : k < 30
            · obtain ⟨v, hv⟩ : ∃ v : Int, v = 500000 + 1000 * (i : Int) + (k : Int) := ⟨_, rfl⟩
              have ev : 500000 + 1000 * (i : Int) + (k : Int) = v := hv.symm
              have hv0 : 0 ≤ v := by omega
              have hv1 : v ≤ 200000000 := by omega
              have HMk : Hid ((mk2I64 i)[k]? = some (.int .i64 v)) := hide (by rw [hv]; exact mk2I64_at hkl)
              clear hv
              have HS := hide (Src.one (P := Try.prog) wr (e := 2) Try.underlying41 (.int .i64 v) rfl)
              have I1' := hide (I1.out.fr0 ((Fr.refl No wr).alloc (.cells #[.int .i64 v] 2)))
              have b1 : (N i + k + 1) * 8 ≤ 140737488355328 := by omega
              have b2 : N i + k + 1 ≤ maxLen := by unfold maxLen; omega
              go_wp2_with (at_builtin; refine wpList_append_two _ rfl (.tmp 52) (.tmp 58) 41 41 rfl 0 2 i1 (.int .i64 0) 1 8 Try.underlying41 hi1 hz1 hs1 hb1 rfl u7 (N i + k) _ rfl I1'.out _ 1 [.int .i64 v] rfl HS.out b1 b2 (Nat.zero_le _) ?_; intro v' w' hown hat; have ON := hide hown; have HAT := hide hat; clear hown hat)
              go_roundw
              case rel =>
                have h5 := ON.out
                rw [List.append_assoc, take_snoc_at HMk.out] at h5
                have h6 := apart_step hWi (LT.out i hlt) (by
                  rcases AI.out with ⟨h, h0⟩ | h
                  · exact .inl ⟨h, by rw [h0]; rfl⟩
                  · exact .inr h) I2.out I3.out I4.out h5 HAT.out
                exact ⟨k + 1, by omega, by go_num, hide h5, hide h6.1, hide h6.2.1, hide h6.2.2⟩
              case measure => simp [intOf]; omega
            · obtain rfl : k = 30 := by omega
              obtain ⟨Al, cl, rfl, hl1, hl2, _⟩ := I1.out.form
              have HS := hide (Src.one (P := Try.prog) wr (e := 41) Try.underlying50 (.slice Al (N i + 30) cl) rfl)
              have FO : Hid (Fr (fun k => (Value.slice (A i) (N i) (C i)).ownBlock = some k) wi (wr.alloc (.cells #[.slice Al (N i + 30) cl] 41))) := I4.out.alloc _
              have OM' : Hid (Own (wr.alloc (.cells #[.slice Al (N i + 30) cl] 41)) W.heap.size 41 1 u5 i ((List.range i).map L)) := OM.out.fr FO.out (fun g hg hk => by
                have := (OM.out.lt g hg).1
                have := LT.out i hlt g hk
                omega)
              have b1 : (i + 1) * 24 ≤ 140737488355328 := by omega
              have b2 : i + 1 ≤ maxLen := by unfold maxLen; omega
              have b3 : W.heap.size ≤ (wr.alloc (.cells #[.slice Al (N i + 30) cl] 41)).heap.size := Nat.le_trans hWi FO.out.size
              go_wp2_with (at_builtin; refine wpList_append_gen _ rfl (.tmp 60) (.tmp 62) 50 50 rfl W.heap.size 41 i2 (.slice none 0 0) 1 24 Try.underlying50 hi2 hz2 hs2 hb2 rfl u5 i _ rfl OM'.out _ 1 [.slice Al (N i + 30) cl] rfl HS.out b1 b2 b3 ?_; intro v' w' hown hfr hat; have ON := hide hown; have FN := hide hfr; clear hown hfr hat)
              go_roundw
              case rel =>
                have hmw : ∀ g, u5.ownBlock = some g → W.heap.size ≤ g := fun g hg => (OM'.out.lt g hg).1
                have hl : Own (wr.alloc (.cells #[.slice Al (N i + 30) cl] 41)) 0 2 1 (.slice Al (N i + 30) cl) (N i + 30) (mk1I64 i (N i) ++ mk2I64 i) := by
                  have h := I1.out
                  rw [List.take_of_length_le (by rw [mk2I64_len]; omega)] at h
                  exact h.fr0 ((Fr.refl No wr).alloc _)
                refine ⟨i + 1, updV L i (.slice Al (N i + 30) cl), by omega, by go_num, hide (by rw [← map_snoc]; exact ON.out), hide ?_, hide ?_, hide ?_, hide ?_, hide ?_, hide ?_⟩
                · intro j hij hj
                  refine ((OV.out j (by omega) hj).fr FO.out ?_).fr FN.out ?_
                  · intro g hg hk
                    exact HA.out.dis i j hlt hj (by omega) g hk hg
                  · intro g hg hk
                    have := LT.out j hj g hg
                    have := hmw g hk
                    omega
                · intro j hj
                  have h1 : Rd (wr.alloc (.cells #[.slice Al (N i + 30) cl] 41)) W.heap.size (A j) (mk1I64 j (N j)) := by
                    by_cases hji : j = i
                    · subst hji
                      exact I3.out.fr0 ((Fr.refl No wr).alloc _)
                    · refine (RV.out j hj).fr2 FO.out ?_
                      intro ad had hk
                      exact HA.out.dis i j hlt hj (fun e => hji e.symm) _ hk (by rw [had]; rfl)
                  refine h1.fr2 FN.out ?_
                  intro ad had hk
                  have := LT.out j hj ad.block (by rw [had]; rfl)
                  have := hmw _ hk
                  omega
                · intro j hj
                  by_cases hji : j = i
                  · subst hji
                    rw [updV_same]
                    exact hl.fr FN.out (fun g hg hk => hl.ne_own OM'.out (by decide) hk hg)
                  · rw [updV_other _ _ hji]
                    have h1 := (OL.out j (by omega)).fr FO.out (fun g hg hk => DL.out j (by omega) i (Nat.le_refl _) hlt g hk hg)
                    exact h1.fr FN.out (fun g hg hk => h1.ne_own OM'.out (by decide) hk hg)
                · intro j hj j' hij hj' k hk
                  by_cases hji : j = i
                  · subst hji
                    rw [updV_same]
                    rcases I2.out with h2 | h2
                    · rw [h2]
                      exact fun h => HA.out.dis j j' hlt hj' (by omega) k h hk
                    · intro h
                      have := h2 k h
                      have := LT.out j' hj' k hk
                      omega
                  · rw [updV_other _ _ hji]
                    exact DL.out j (by omega) j' (by omega) hj' k hk
                · refine (FW.out.trans FO.out (fun k _ hk => ⟨i, hlt, hk⟩)).trans FN.out ?_
                  intro k hk h
                  have := hmw k h
                  omega
                · refine FN.out.blk (FO.out.blk QQ.out (QN.out i hlt)) ?_
                  intro h
                  have := hmw q h
                  have := QW.out
                  omega
              case measure => simp [intOf]; omega
        · obtain rfl : m = i := by omega
          clear DL OV hW LT QW QN
          obtain ⟨AM, cM, rfl, hM1, hM2, _, hMR, _⟩ := OM.out.form
          unfold maxLen at hM2
          have MR := hide hMR
          clear hMR OM
          go_wp2
          go_loop [9, 10, 11, 12] (fun i' _ _ _ => ∃ i : Nat, i ≤ m ∧ i' = .int .i64 i) (fun i' _ _ _ => m - (intOf i').toNat)
          case atStart => exact ⟨0, by omega, rfl⟩
          case round =>
            obtain ⟨i, hi2', rfl⟩ := hrel
            clear hlt
            by_cases hlt : i < m
            · have hNi := HN.out i hlt
              have hci := cell_of_row wi q i cs 41 (0, 0) QQ.out
              rw [HCS.out i hlt] at hci
              obtain ⟨Al, cl, hLi, hl1, hl2, _, hLR, _⟩ := (OL.out i hlt).form
              unfold maxLen at hl2
              obtain ⟨am, rfl, _, hmc⟩ := MR.out i (L i) (by simp [List.getElem?_range hlt])
              rw [hLi] at hmc
              have LR := hide hLR
              clear hLR hLi
              go_wp2
              go_loop [11] (fun k' => ∃ k : Nat, k ≤ N i ∧ k' = .int .i64 k) (fun k' => N i - (intOf k').toNat)
              case atStart => exact ⟨0, by omega, rfl⟩
              case round =>
                obtain ⟨k, hk, rfl⟩ := hrel
                by_cases hkl : k < N i
                · obtain ⟨v, hv⟩ : ∃ v : Int, v = 1000 * (i : Int) + (k : Int) := ⟨_, rfl⟩
                  have ev : 1000 * (i : Int) + (k : Int) = v := hv.symm
                  have hv0 : 0 ≤ v := by omega
                  have hv1 : v ≤ 200000000 := by omega
                  have HMk : Hid ((mk1I64 i (N i))[k]? = some (.int .i64 v)) := hide (by rw [hv]; exact mk1I64_at hkl)
                  clear hv
                  obtain ⟨ad, hAi, _, hc1⟩ := RV.out i hlt k _ HMk.out
                  obtain ⟨bd, rfl, _, hc2⟩ := LR.out k (.int .i64 v) (by rw [List.getElem?_append_left (by rw [mk1I64_len]; exact hkl)]; exact HMk.out)
                  rw [hAi] at hci
                  have hb : (v != v) = false := by simp
                  clear hAi
                  go_wp2
                  go_round
                  case rel => exact ⟨k + 1, by omega, by go_num⟩
                  case measure => simp [intOf]; omega
                · go_wp2
                  go_loop [12] (fun k' => ∃ k : Nat, k ≤ 30 ∧ k' = .int .i64 k) (fun k' => 30 - (intOf k').toNat)
                  case atStart => exact ⟨0, by omega, rfl⟩
                  case round =>
                    clear hkl hk
                    obtain ⟨k, hk, rfl⟩ := hrel
                    by_cases hkl : k < 30
                    · obtain ⟨v, hv⟩ : ∃ v : Int, v = 500000 + 1000 * (i : Int) + (k : Int) := ⟨_, rfl⟩
                      have ev : 500000 + 1000 * (i : Int) + (k : Int) = v := hv.symm
                      have hv0 : 0 ≤ v := by omega
                      have hv1 : v ≤ 200000000 := by omega
                      have HMk : Hid ((mk2I64 i)[k]? = some (.int .i64 v)) := hide (by rw [hv]; exact mk2I64_at hkl)
                      clear hv
                      obtain ⟨bd, rfl, _, hc2⟩ := LR.out (N i + k) (.int .i64 v) (by
                        rw [List.getElem?_append_right (by rw [mk1I64_len]; omega), mk1I64_len, Nat.add_sub_cancel_left]
                        exact HMk.out)
                      have hb : (v != v) = false := by simp
                      have t1 : ((N i : Int) + (k : Int)).toNat = N i + k := by omega
                      go_wp2
                      go_round
                      case rel => exact ⟨k + 1, by omega, by go_num⟩
                      case measure => simp [intOf]; omega
                    · go_wp2
                      go_round
                      case rel => exact ⟨i + 1, by omega, by go_num⟩
                      case measure => simp [intOf]; omega
            · go_wp2
              go_ret
              exact ⟨rfl, FW.out⟩
end
end Go.Proofs.Ytpnhnnhocekchaa
namespace Go.Proofs.Ytpnhnnhocekchaa
set_option linter.unusedVariables false
set_option linter.unusedSimpArgs false
open Go.RowKit

def txt4 (n : Nat) : List UInt8 := [UInt8.ofNat (n % 256), UInt8.ofNat (n / 256 % 256), UInt8.ofNat (n / 65536 % 256), 77]
theorem txt4_toNat {x : Nat} : (UInt8.ofNat (x % 256)).toNat = x % 256 := by
  rw [UInt8.toNat_ofNat']
  omega
set_option maxRecDepth 100000 in
set_option maxHeartbeats 400000 in
theorem text4_any (n : Nat) (w : World) (hn : n < 16777216) : Calls Try.prog 83 #[.int .i64 (n : Nat)] w (RetF (.string ⟨(txt4 n).toArray⟩) w) := by
  have h1 : IntKind.u8.wrap (n : Int) = ((n % 256 : Nat) : Int) := by rw [IntKind.wrap_u8']; omega
  have h2 : IntKind.u8.wrap ((n : Int) / 256) = ((n / 256 % 256 : Nat) : Int) := by rw [IntKind.wrap_u8']; omega
  have h3 : IntKind.u8.wrap ((n : Int) / 65536) = ((n / 65536 % 256 : Nat) : Int) := by rw [IntKind.wrap_u8']; omega
  have hcv := conv_rd (w.alloc (.cells #[.int .u8 ((n : Int) % 256), .int .u8 ((n : Int) / 256 % 256), .int .u8 ((n : Int) / 65536 % 256), .int .u8 77] 5)) (some ⟨w.heap.size, 0, none⟩) 4 4 (txt4 n) rfl (rd_lit8 w _ (txt4 n) (by
    unfold txt4 by8
    simp only [List.map_cons, List.map_nil, txt4_toNat]
    rfl))
  go_enter Try.func83, Try.ntmps83
  go_wp2
  go_ret
  exact ⟨rfl, (Fr.refl No w).alloc _⟩
theorem ba0 {b0 b1 b2 b3 : UInt8} (h : 0 < (⟨#[b0, b1, b2, b3]⟩ : ByteArray).size) : (⟨#[b0, b1, b2, b3]⟩ : ByteArray)[0]'h = b0 := rfl
theorem ba1 {b0 b1 b2 b3 : UInt8} (h : 1 < (⟨#[b0, b1, b2, b3]⟩ : ByteArray).size) : (⟨#[b0, b1, b2, b3]⟩ : ByteArray)[1]'h = b1 := rfl
theorem ba2 {b0 b1 b2 b3 : UInt8} (h : 2 < (⟨#[b0, b1, b2, b3]⟩ : ByteArray).size) : (⟨#[b0, b1, b2, b3]⟩ : ByteArray)[2]'h = b2 := rfl
set_option maxRecDepth 100000 in
set_option maxHeartbeats 400000 in
theorem value4_any (n : Nat) (w : World) (hn : n < 16777216) : Calls Try.prog 84 #[.string ⟨(txt4 n).toArray⟩] w (RetQ (.int .i64 (n : Nat)) w) := by
  have e0 : (UInt8.ofNat (n % 256)).toNat = n % 256 := txt4_toNat
  have e1 : (UInt8.ofNat (n / 256 % 256)).toNat = n / 256 % 256 := txt4_toNat
  have e2 : (UInt8.ofNat (n / 65536 % 256)).toNat = n / 65536 % 256 := txt4_toNat
  unfold txt4
  generalize UInt8.ofNat (n % 256) = b0 at *
  generalize UInt8.ofNat (n / 256 % 256) = b1 at *
  generalize UInt8.ofNat (n / 65536 % 256) = b2 at *
  go_enter Try.func84, Try.ntmps84
  have z3 : ∀ h : 3 < (⟨#[b0, b1, b2, 77]⟩ : ByteArray).size, ((((⟨#[b0, b1, b2, 77]⟩ : ByteArray)[3]'h).toNat : Int) != 77) = false := fun h => rfl
  go_wp2
  go_quiet (fail)
  simp only [ba0, ba1, ba2]
  have l0 : b0.toNat < 256 := b0.toNat_lt
  have l1 : b1.toNat < 256 := b1.toNat_lt
  have l2 : b2.toNat < 256 := b2.toNat_lt
  generalize b0.toNat = t0 at *
  generalize b1.toNat = t1 at *
  generalize b2.toNat = t2 at *
  have hv : wrap64 (wrap64 (wrap64 (t0 : Int) + wrap64 (wrap64 (t1 : Int) * 256)) + wrap64 (wrap64 (t2 : Int) * 65536)) = (n : Int) := by
    rw [IntWalk.wrap64_in (t0 : Int) (by omega), IntWalk.wrap64_in (t1 : Int) (by omega), IntWalk.wrap64_in (t2 : Int) (by omega), IntWalk.wrap64_in ((t1 : Int) * 256) (by omega), IntWalk.wrap64_in ((t2 : Int) * 65536) (by omega), IntWalk.wrap64_in ((t0 : Int) + (t1 : Int) * 256) (by omega), IntWalk.wrap64_in ((t0 : Int) + (t1 : Int) * 256 + (t2 : Int) * 65536) (by omega)]
    omega
  rw [hv]
  clear hv z3
  go_wp2
  go_ret
  exact ⟨rfl, _, rfl⟩
end Go.Proofs.Ytpnhnnhocekchaa
namespace Go.Proofs.Ytpnhnnhocekchaa
set_option linter.unusedVariables false
set_option linter.unusedSimpArgs false
open Go.RowKit

abbrev DocQ := List EntL × Option Addr × Nat
def qVal (p : DocQ) : Value := .slice p.2.1 p.1.length p.2.2
structure OwnQ (w : World) (base : Nat) (ps : List DocQ) : Prop where
  ds : ∀ p ∈ ps, OwnEs w base (qVal p) p.1.length p.1
  apE : ps.Pairwise (fun p q => ∀ k, (qVal p).ownBlock = some k → (qVal q).ownBlock ≠ some k)
  apN : (ps.flatMap (·.1)).Pairwise (fun p q => ∀ k, (nVal p).ownBlock = some k → (nVal q).ownBlock ≠ some k)
theorem OwnQ.fr0 {w w' : World} {base : Nat} {ps : List DocQ} (h : OwnQ w base ps) (f : Fr No w w') : OwnQ w' base ps := ⟨fun p hp => (h.ds p hp).fr0 f, h.apE, h.apN⟩
theorem OwnQ.off {S : Nat → Prop} {w w' : World} {base : Nat} {ps : List DocQ} (h : OwnQ w base ps) (f : Fr S w w') (h1 : Off S w 109) (h2 : Off S w 2) : OwnQ w' base ps := ⟨fun p hp => (h.ds p hp).off f h1 h2, h.apE, h.apN⟩
theorem OwnQ.nil (w : World) (base : Nat) : OwnQ w base [] := ⟨(fun p hp => by cases hp), List.Pairwise.nil, List.Pairwise.nil⟩
theorem OwnQ.num {w : World} {base : Nat} {ps : List DocQ} (h : OwnQ w base ps) {e : EntL} (he : e ∈ ps.flatMap (·.1)) : OwnN w base e := by
  obtain ⟨p, hp, hq⟩ := List.mem_flatMap.1 he
  exact (h.ds p hp).ns e hq
/-- one more: it lies above all that lay before. -/
theorem OwnQ.snoc {w0 w1 : World} {base : Nat} {ps : List DocQ} {p : DocQ} (h0 : OwnQ w0 base ps) (h : OwnQ w1 base ps) (hp : OwnEs w1 w0.heap.size (qVal p) p.1.length p.1) (hb : base ≤ w0.heap.size) : OwnQ w1 base (ps ++ [p]) := by
  refine ⟨?_, ?_, ?_⟩
  · intro q hq
    rcases List.mem_append.1 hq with hq | hq
    · exact h.ds q hq
    · rw [List.mem_singleton.1 hq]; exact hp.lower hb
  · rw [List.pairwise_append]
    refine ⟨h.apE, List.pairwise_singleton _ _, ?_⟩
    intro q hq r hr k hk hk2
    rw [List.mem_singleton.1 hr] at hk2
    have h1 := ((h0.ds q hq).row.lt k hk).2
    have h2 := (hp.row.lt k hk2).1
    omega
  · rw [List.flatMap_append, List.pairwise_append]
    have e1 : [p].flatMap (·.1) = p.1 := by simp
    rw [e1]
    refine ⟨h.apN, hp.ap, ?_⟩
    intro q hq r hr k hk hk2
    have h1 := ((h0.num hq).1.lt k hk).2
    have h2 := ((hp.ns r hr).1.lt k hk2).1
    omega
theorem pw_at {α : Type} {R : α → α → Prop} {l : List α} (h : l.Pairwise R) {i j : Nat} {x y : α} (hij : i < j) (hx : l[i]? = some x) (hy : l[j]? = some y) : R x y := by
  obtain ⟨h1, rfl⟩ := List.getElem?_eq_some_iff.1 hx
  obtain ⟨h2, rfl⟩ := List.getElem?_eq_some_iff.1 hy
  exact List.pairwise_iff_getElem.1 h i j h1 h2 hij
theorem eFlat_third {l : List EntL} {k j : Nat} {e : EntL} (h : l[k]? = some e) (hj : j < 3) : (eFlat l)[k * 3 + j]? = (eRow e)[j]? := by
  induction l generalizing k with
  | nil => simp at h
  | cons p r ih =>
    have e1 : eFlat (p :: r) = eRow p ++ eFlat r := rfl
    have e3 : (eRow p).length = 3 := rfl
    rw [e1]
    cases k with
    | zero =>
      have h : p = e := by simpa using h
      subst h
      rw [List.getElem?_append_left (by rw [e3]; omega), Nat.zero_mul, Nat.zero_add]
    | succ k =>
      rw [List.getElem?_append_right (by rw [e3]; omega), e3, show (k + 1) * 3 + j - 3 = k * 3 + j by omega, ih (by simpa using h)]
def dE : EntL := (EntV.none, none, 0)
def flatQ (ps : List DocQ) : List EntL := ps.flatMap (fun p => p.1)
def eA (es : List EntL) (j : Nat) : Option Addr := (es.getD j dE).2.1
def eN (es : List EntL) (j : Nat) : Nat := (es.getD j dE).1.ns.length
def eC (es : List EntL) (j : Nat) : Nat := (es.getD j dE).2.2
def eZ (es : List EntL) (j : Nat) : List Value := iz .i64 (es.getD j dE).1.ns
/-- the numbers of the documents, as rows that lie apart. -/
theorem OwnQ.owns {w : World} {base : Nat} {ps : List DocQ} (h : OwnQ w base ps) : Owns w base 2 (flatQ ps).length (eA (flatQ ps)) (eN (flatQ ps)) (eC (flatQ ps)) (eZ (flatQ ps)) := by
  intro j hj
  exact (h.num (getD_mem2 (d := dE) hj)).1
theorem OwnQ.apart {w : World} {base : Nat} {ps : List DocQ} (h : OwnQ w base ps) : Apart (flatQ ps).length (eA (flatQ ps)) (eN (flatQ ps)) (eC (flatQ ps)) := by
  have hv : ∀ j, j < (flatQ ps).length → (flatQ ps)[j]? = some ((flatQ ps).getD j dE) := fun j hj => by
    rw [List.getD_eq_getElem?_getD, List.getElem?_eq_getElem hj]
    rfl
  refine ⟨fun i j hi hj hij k hk hk2 => ?_⟩
  rcases Nat.lt_or_gt_of_ne hij with hlt | hlt
  · exact pw_at h.apN hlt (hv i hi) (hv j hj) k hk hk2
  · exact pw_at h.apN hlt (hv j hj) (hv i hi) k hk2 hk
theorem flatQ_take {ps : List DocQ} {i : Nat} {p : DocQ} (h : ps[i]? = some p) : flatQ (ps.take (i + 1)) = flatQ (ps.take i) ++ p.1 := by
  rw [take_some h]
  simp [flatQ, List.flatMap_append]
theorem flatQ_le {ps : List DocQ} (h : ∀ p ∈ ps, p.1.length ≤ 64) : (flatQ ps).length ≤ 64 * ps.length := by
  induction ps with
  | nil => simp [flatQ]
  | cons p r ih =>
    have e : flatQ (p :: r) = p.1 ++ flatQ r := rfl
    have h1 := h p (by simp)
    have h2 := ih (fun q hq => h q (by simp [hq]))
    rw [e, List.length_append, List.length_cons]
    omega
theorem flatQ_sub {ps : List DocQ} (i : Nat) : (flatQ (ps.take i)).length ≤ (flatQ ps).length := (flat_take (fun p : DocQ => p.1) ps i).length_le
/-- the rows of entries, whatever they hold. -/
def RowsQ (w : World) (base : Nat) (ps : List DocQ) (X : Nat → List Value) : Prop := ∀ j p, ps[j]? = some p → Own w base 109 3 (qVal p) p.1.length (X j)
theorem OwnQ.rows {w : World} {base : Nat} {ps : List DocQ} (h : OwnQ w base ps) : RowsQ w base ps (fun j => eFlat (ps.getD j ([], none, 0)).1) := by
  intro j p hp
  have e : ps.getD j ([], none, 0) = p := by rw [List.getD_eq_getElem?_getD, hp]; rfl
  have := (h.ds p (List.mem_of_getElem? hp)).row
  show Own _ _ _ _ _ _ (eFlat (ps.getD j ([], none, 0)).1)
  rw [e]
  exact this
theorem RowsQ.off {S : Nat → Prop} {w w' : World} {base : Nat} {ps : List DocQ} {X : Nat → List Value} (h : RowsQ w base ps X) (f : Fr S w w') (hS : Off S w 109) : RowsQ w' base ps X := fun j p hp => (h j p hp).off f hS
theorem RowsQ.fr0 {w w' : World} {base : Nat} {ps : List DocQ} {X : Nat → List Value} (h : RowsQ w base ps X) (f : Fr No w w') : RowsQ w' base ps X := h.off f (fun _ _ _ _ h => h)
/-- an entry of one row written. -/
theorem RowsQ.set {w : World} {base i q : Nat} {ps : List DocQ} {X : Nat → List Value} {p : DocQ} (h : RowsQ w base ps X) (ha : ps.Pairwise (fun p q => ∀ k, (qVal p).ownBlock = some k → (qVal q).ownBlock ≠ some k)) (hp : ps[i]? = some p) (hq : q < p.1.length * 3) :
    ∃ g, p.2.1 = some ⟨g, 0, none⟩ ∧ base ≤ g ∧ g < w.heap.size ∧ (qVal p).ownBlock = some g ∧ w.cell? ⟨g, q, none⟩ = (X i)[q]? ∧ (∀ j, w.frozen? ⟨g, j, none⟩ = false) ∧ ∀ v : Value, RowsQ (w.setCell ⟨g, q, none⟩ v) base ps (upd X i ((X i).set q v)) := by
  obtain ⟨g, e, hb, hl, ho, hc, hf, hs⟩ := (h i p hp).storeN hq
  refine ⟨g, e, hb, hl, ho, hc q hq, hf, fun v j r hr => ?_⟩
  by_cases hij : j = i
  · subst hij
    rw [hp] at hr
    injection hr with hr
    subst hr
    rw [upd_same]
    exact hs v
  · rw [upd_other _ _ hij]
    refine (h j r hr).fr ((Fr.refl (Is g) w).put q v) (fun k hk e => ?_)
    have e : k = g := e
    subst e
    rcases Nat.lt_or_gt_of_ne hij with hlt | hlt
    · exact pw_at ha hlt hr hp k hk ho
    · exact pw_at ha hlt hp hr k ho hk
def DoneQ (ps : List DocQ) (X : Nat → List Value) (i k : Nat) : Prop := ∀ (j q : Nat) (p : DocQ), ps[j]? = some p → q < p.1.length → (j < i ∨ (j = i ∧ q < k)) → (X j)[q * 3]? = some (.string ⟨(txt4 (1000 * j + q)).toArray⟩)
theorem DoneQ.step {ps : List DocQ} {X : Nat → List Value} {i k : Nat} {p : DocQ} {u1 u2 : Value} (h : DoneQ ps X i k) (hp : ps[i]? = some p) (hl : (X i).length = p.1.length * 3) (hk : k < p.1.length) :
    DoneQ ps (upd X i ((((X i).set (k * 3) (.string ⟨(txt4 (1000 * i + k)).toArray⟩)).set (k * 3 + 1) u1).set (k * 3 + 2) u2)) i (k + 1) := by
  intro j q r hr hq hd
  by_cases hij : j = i
  · subst hij
    rw [hp] at hr
    injection hr with hr
    subst hr
    rw [upd_same, List.getElem?_set_ne (by omega), List.getElem?_set_ne (by omega)]
    by_cases hqk : q = k
    · subst hqk
      rw [List.getElem?_set_self (by omega)]
    · rw [List.getElem?_set_ne (by omega)]
      exact h j q p hp hq (.inr ⟨rfl, by omega⟩)
  · rw [upd_other _ _ hij]
    exact h j q r hr hq (.inl (by omega))
theorem DoneQ.next {ps : List DocQ} {X : Nat → List Value} {i : Nat} {p : DocQ} (h : DoneQ ps X i p.1.length) (hp : ps[i]? = some p) : DoneQ ps X (i + 1) 0 := by
  intro j q r hr hq hd
  by_cases hij : j = i
  · subst hij
    rw [hp] at hr
    injection hr with hr
    subst hr
    exact h j q p hp hq (.inr ⟨rfl, hq⟩)
  · exact h j q r hr hq (.inl (by omega))
end Go.Proofs.Ytpnhnnhocekchaa
namespace Go.Proofs.Ytpnhnnhocekchaa
set_option linter.unusedVariables false
set_option linter.unusedSimpArgs false
open Go.RowKit

set_option maxRecDepth 100000 in
set_option maxHeartbeats 400000 in
theorem apartI64_nil (w : World) : Calls Try.prog 36 #[.slice none 0 0] w (RetB true w) := by
  go_enter Try.func36, Try.ntmps36
  go_wp2
  go_loopw [3] (fun i wr => i = .int .i64 0 ∧ Hid (Fr No w wr)) (fun i _ => 0)
  case atStart => exact ⟨rfl, hide (Fr.refl _ _)⟩
  case round =>
    obtain ⟨w1, rfl⟩ : ∃ w1 : World, w1 = wr := ⟨_, rfl⟩
    obtain ⟨rfl, HF⟩ := hrel
    go_wp2
    go_loopw [6] (fun i wr => i = .int .i64 0 ∧ Hid (Fr No w wr)) (fun i _ => 0)
    case atStart => exact ⟨rfl, HF⟩
    case round =>
      obtain ⟨w2, rfl⟩ : ∃ w2 : World, w2 = wr := ⟨_, rfl⟩
      obtain ⟨rfl, HF2⟩ := hrel
      go_wp2
      go_loopw [9] (fun i wr => i = .int .i64 0 ∧ Hid (Fr No w wr)) (fun i _ => 0)
      case atStart => exact ⟨rfl, HF2⟩
      case round =>
        obtain ⟨rfl, HF3⟩ := hrel
        go_wp2
        go_ret
        exact ⟨rfl, HF3.out⟩

theorem upd_upd (Z : Nat → List Value) (i : Nat) (y z : List Value) : upd (upd Z i y) i z = upd Z i z := by
  funext j
  unfold upd
  by_cases h : j = i
  · rw [if_pos h, if_pos h]
  · rw [if_neg h, if_neg h, if_neg h]
theorem RowsQ.set3 {w : World} {base i k g : Nat} {ps : List DocQ} {X : Nat → List Value} {p : DocQ} (h : RowsQ w base ps X) (ha : ps.Pairwise (fun p q => ∀ k, (qVal p).ownBlock = some k → (qVal q).ownBlock ≠ some k)) (hp : ps[i]? = some p) (hk : k < p.1.length) (hg : p.2.1 = some ⟨g, 0, none⟩) (v0 v1 v2 : Value) :
    RowsQ (((w.setCell ⟨g, k * 3, none⟩ v0).setCell ⟨g, k * 3 + 1, none⟩ v1).setCell ⟨g, k * 3 + 2, none⟩ v2) base ps (upd X i ((((X i).set (k * 3) v0).set (k * 3 + 1) v1).set (k * 3 + 2) v2)) := by
  have one : ∀ {W : World} {Y : Nat → List Value} (q : Nat) (v : Value), q < p.1.length * 3 → RowsQ W base ps Y → RowsQ (W.setCell ⟨g, q, none⟩ v) base ps (upd Y i ((Y i).set q v)) := by
    intro W Y q v hq hY
    obtain ⟨g', e, _, _, _, _, _, hs⟩ := hY.set ha hp hq
    rw [hg] at e
    injection e with e
    injection e with e
    subst e
    exact hs v
  have h1 := one (k * 3) v0 (by omega) h
  have h2 := one (k * 3 + 1) v1 (by omega) h1
  have h3 := one (k * 3 + 2) v2 (by omega) h2
  rw [upd_same, upd_upd, upd_same, upd_upd] at h3
  exact h3
set_option maxRecDepth 100000 in
set_option maxHeartbeats 4000000 in
theorem apartDocs_any (A : Option Addr) (n c : Nat) (ps : List DocQ) (base : Nat) (w : World) (hl : ps.length = n) (hn80 : n ≤ 80) (h64 : ∀ p ∈ ps, p.1.length ≤ 64) (h4 : ∀ p ∈ ps, ∀ e ∈ p.1, e.1.ns.length ≤ 4) (hrow : Own w base 76 1 (.slice A n c) n (ps.map qVal)) (hq : OwnQ w base ps) (hb : base ≤ w.heap.size) :
    Calls Try.prog 50 #[.slice A n c] w (fun en w' => en = .returned (.bool true) ∧ Fr (fun k => base ≤ k) w w') := by
  obtain ⟨iS, hiS, hzS, hsS, hbS⟩ := info_parts Try.infoSI64
  have HL := hide hl
  have HRow := hide hrow
  have HQ := hide hq
  have H64 := hide h64
  have H4 := hide h4
  have hcm := hrow.le.2.2
  unfold maxLen at hcm
  clear hl hrow hq h64 h4
  go_enter Try.func50, Try.ntmps50
  go_wp2
  go_loopw [3, 4, 5] (fun va ix _ wr => ∃ (i k : Nat), i ≤ n ∧ ix = .int .i64 i ∧ Hid (k = (flatQ (ps.take i)).length) ∧ Hid (Own wr w.heap.size 41 1 va k ((flatQ (ps.take i)).map nVal)) ∧ Hid (Fr No w wr)) (fun _ ix _ _ => n - (intOf ix).toNat)
  case atStart => exact ⟨0, 0, by omega, rfl, hide (by simp [flatQ]), hide (by simpa [flatQ] using Own.nil w w.heap.size 41 1), hide (Fr.refl _ _)⟩
  case round =>
    obtain ⟨wo, rfl⟩ : ∃ wo : World, wo = wr := ⟨_, rfl⟩
    obtain ⟨i, k, hi, rfl, HK, HO, HF⟩ := hrel
    by_cases hlt : i < n
    · obtain ⟨p, hp⟩ : ∃ p, ps[i]? = some p := ⟨_, List.getElem?_eq_getElem (by rw [HL.out]; exact hlt)⟩
      have hpm := List.mem_of_getElem? hp
      have hp64 := H64.out p hpm
      have HP := hide hp
      have HD := hide (HQ.out.ds p hpm)
      have HP4 := hide (H4.out p hpm)
      obtain ⟨pn, hpn⟩ : ∃ pn, pn = p.1.length := ⟨_, rfl⟩
      rw [← hpn] at hp64
      obtain ⟨gR, rfl, _, _, _, hcell, _⟩ := HRow.out.storeN (k := i) (by omega)
      have hci := hcell i (by omega)
      rw [List.getElem?_map, hp] at hci
      have hci : w.cell? ⟨gR, i, none⟩ = some (.slice p.2.1 pn p.2.2) := by rw [hpn]; exact hci
      obtain ⟨Ap, hAp⟩ : ∃ A, A = p.2.1 := ⟨_, rfl⟩
      obtain ⟨cp, hcp⟩ : ∃ A, A = p.2.2 := ⟨_, rfl⟩
      rw [← hAp, ← hcp] at hci
      have hle := HD.out.row.le
      have HCi := hide hci
      have HQv : Hid (qVal p = .slice Ap pn cp) := hide (by unfold qVal; rw [hAp, hcp, hpn])
      have HPn := hide hpn
      have hcp2 : cp ≤ 9223372036854775807 := by have h := hle.2.2; unfold maxLen at h; rw [hcp]; exact h
      have hkb : k + 64 ≤ 5200 := by
        have h1 := flatQ_le H64.out
        have h2 := flatQ_sub (ps := ps) i
        rw [HL.out] at h1
        rw [HK.out]
        omega
      have hpc : pn ≤ cp := by rw [hpn, hcp]; exact hle.2.1
      clear hp hpm hpn hcell hci hAp hcp hle
      go_wp2
      go_loopw [3, 5] (fun va ix wr => ∃ j : Nat, j ≤ pn ∧ ix = .int .i64 j ∧ Hid (Own wr w.heap.size 41 1 va (k + j) ((flatQ (ps.take i) ++ p.1.take j).map nVal)) ∧ Hid (Fr No w wr)) (fun _ ix _ => pn - (intOf ix).toNat)
      case atStart => exact ⟨0, by omega, rfl, hide (by simpa using HO.out), HF⟩
      case round =>
        obtain ⟨wx, rfl⟩ : ∃ wx : World, wx = wr := ⟨_, rfl⟩
        clear HO HF
        obtain ⟨j, hj, rfl, HO, HF⟩ := hrel
        have hc1 := HF.out.cell HCi.out (fun h => h)
        by_cases hjn : j < pn
        · obtain ⟨e, he⟩ : ∃ e, p.1[j]? = some e := ⟨_, List.getElem?_eq_getElem (by rw [← HPn.out]; exact hjn)⟩
          have hrw := HD.out.row
          rw [HQv.out, ← HPn.out] at hrw
          obtain ⟨gE, rfl, _, _, _, hce, _⟩ := hrw.storeN (k := j * 3 + 2) (by omega)
          have hc2 := hce (j * 3 + 2) (by omega)
          rw [eFlat_third he (by omega)] at hc2
          have hc3 := HF.out.cell (p := ⟨gE, j * 3 + 2, none⟩) (show w.cell? ⟨gE, j * 3 + 2, none⟩ = some (nVal e) from hc2) (fun h => h)
          have HTk : Hid (p.1.take (j + 1) = p.1.take j ++ [e]) := hide (take_some he)
          obtain ⟨Ae, hAe⟩ : ∃ A, A = e.2.1 := ⟨_, rfl⟩
          obtain ⟨ce, hce2⟩ : ∃ A, A = e.2.2 := ⟨_, rfl⟩
          obtain ⟨ne, hne⟩ : ∃ A, A = e.1.ns.length := ⟨_, rfl⟩
          have hnv : nVal e = .slice Ae ne ce := by unfold nVal; rw [hAe, hce2, hne]
          rw [hnv] at hc3
          have HNv := hide hnv
          have HSa := hide (Src.one (P := Try.prog) wx (e := 41) Try.underlying50 (.slice Ae ne ce) rfl)
          have fa : Fr No wx (wx.alloc (.cells #[.slice Ae ne ce] 41)) := (Fr.refl No wx).alloc _
          have HOa := hide (HO.out.fr0 fa)
          have HFa := hide (HF.out.tr fa)
          have b1 : (k + j + 1) * 24 ≤ 140737488355328 := by omega
          have b2 : k + j + 1 ≤ maxLen := by unfold maxLen; omega
          have b3 : w.heap.size ≤ (wx.alloc (.cells #[.slice Ae ne ce] 41)).heap.size := HFa.out.size
          have hiI : (i : Int) < (n : Int) := by omega
          have hjI : (j : Int) < (pn : Int) := by omega
          clear he hrw hce hc2 hAe hce2 hne hnv fa
          go_wp2_with (first | (at_builtin; refine wpList_append_gen _ rfl (.tmp 26) (.tmp 36) 50 50 rfl w.heap.size 41 iS _ 1 24 Try.underlying50 hiS hzS hsS hbS rfl u3 (k + j) ((flatQ (ps.take i) ++ p.1.take j).map nVal) rfl HOa.out _ 1 [.slice Ae ne ce] rfl HSa.out b1 b2 b3 ?_; intro v5 w5 hown hfr hat; have HO5 := hide hown; have HF5 := hide hfr; clear hown hfr hat) | fail)
          go_roundw
          case measure => simp [intOf]; omega
          case rel =>
            refine ⟨j + 1, by omega, by go_num, hide ?_, hide (HFa.out.own HF5.out (fun k' hk' => .inl (HOa.out.lt k' hk').1))⟩
            rw [HTk.out, ← List.append_assoc, List.map_append]
            have h := HO5.out
            rw [← HNv.out] at h
            exact h
        · obtain rfl : j = pn := by omega
          have HX : Hid (k + j = (flatQ (ps.take (i + 1))).length ∧ Own wx w.heap.size 41 1 u3 (k + j) ((flatQ (ps.take (i + 1))).map nVal)) := hide (by
            have h := HO.out
            have et : p.1.take j = p.1 := List.take_of_length_le (by rw [HPn.out]; exact Nat.le_refl _)
            rw [et, ← flatQ_take HP.out] at h
            refine ⟨?_, h⟩
            rw [flatQ_take HP.out, List.length_append, ← HK.out, ← HPn.out])
          clear hjn
          go_wp2
          go_roundw
          case measure => simp [intOf]; omega
          case rel => exact ⟨i + 1, k + j, by omega, by go_num, hide HX.out.1, hide HX.out.2, HF⟩
    · obtain rfl : i = n := by omega
      have HAll : Hid (ps.take i = ps) := hide (List.take_of_length_le (by rw [HL.out]; exact Nat.le_refl _))
      rw [HAll.out] at HK HO
      have hk52 : k ≤ 5200 := by
        have h1 := flatQ_le H64.out
        rw [HL.out] at h1
        rw [HK.out]
        omega
      have hQo := HQ.out.fr0 HF.out
      have HOw := hide hQo.owns
      have HAp := hide hQo.apart
      have hNs : ∀ j, j < (flatQ ps).length → eN (flatQ ps) j ≤ 2097152 := fun j hj => by
        have hm := getD_mem2 (d := dE) hj
        obtain ⟨p, hp, he⟩ := List.mem_flatMap.1 hm
        have := H4.out p hp _ he
        unfold eN
        omega
      have HNs := hide hNs
      have HI := hide (show ∀ v, Own wo w.heap.size 41 1 v k ((flatQ ps).map nVal) → Calls Try.prog 36 #[v] wo (fun en w' => en = .returned (.bool true) ∧ Fr (Blocks (flatQ ps).length (eA (flatQ ps)) (eN (flatQ ps)) (eC (flatQ ps))) wo w') from fun v hv => by
        obtain ⟨hl', A', c', rfl, h1, h2, hA'⟩ := hv
        rcases hA' with ⟨rfl, rfl⟩ | ⟨g', cur, rfl, _, hh, h3, h4'⟩
        · obtain rfl : k = 0 := by omega
          exact (apartI64_nil wo).mono (fun _ _ h => ⟨h.1, h.2.any _⟩)
        · rw [HK.out] at h1 hk52 ⊢
          refine apartI64_any g' (flatQ ps).length c' _ _ _ cur wo base _ (by omega) HNs.out h1 h2 hh (fun j hj => ?_) HOw.out HAp.out
          have e := congrArg (fun l => l[j]?) h4'
          simp only [HK.out, Nat.mul_one, List.getElem?_take, if_pos hj, List.getElem?_map] at e
          rw [Array.getElem?_toList] at e
          rw [e, List.getElem?_eq_getElem hj]
          show some (nVal (flatQ ps)[j]) = _
          have ed : (flatQ ps).getD j dE = (flatQ ps)[j] := by rw [List.getD_eq_getElem?_getD, List.getElem?_eq_getElem hj]; rfl
          unfold nVal eA eN eC
          rw [ed])
      have HC := hide (HI.out u3 HO.out)
      clear hlt hNs hQo HI
      go_wp2_with (fail)
      refine HC.out.mono ?_
      rintro en w2 ⟨rfl, hfr⟩
      have offB : ∀ T, T ≠ 2 → Off (Blocks (flatQ ps).length (eA (flatQ ps)) (eN (flatQ ps)) (eC (flatQ ps))) wo T := fun T hT k cs fz hk hbk => by
        obtain ⟨j, hj, hbj⟩ := hbk
        exact (HOw.out j hj).ne_blk hbj hk (fun e => hT e.symm)
      have HRow2 := hide ((HRow.out.fr0 HF.out).off hfr (offB _ (by decide)))
      have HRs2 := hide ((HQ.out.fr0 HF.out).rows.off hfr (offB _ (by decide)))
      have HF2 : Hid (Fr (fun k => base ≤ k) w w2) := hide ((HF.out.any (fun k => base ≤ k)).trans hfr (fun k hk hbk => by
        obtain ⟨j, hj, hbj⟩ := hbk
        exact ((HOw.out j hj).lt k hbj).1))
      clear hfr offB HC
      go_wp2_with (fail)
      go_loopw [6, 7] (fun ix _ wr => ∃ (a : Nat) (X : Nat → List Value), a ≤ i ∧ ix = .int .i64 a ∧ Hid (RowsQ wr base ps X) ∧ Hid (DoneQ ps X a 0) ∧ Hid (Own wr base 76 1 (.slice A i c) i (ps.map qVal)) ∧ Hid (Fr (fun k => base ≤ k) w wr)) (fun ix _ _ => i - (intOf ix).toNat)
      case atStart => exact ⟨0, _, by omega, rfl, HRs2, hide (fun j q p _ _ h => by omega), HRow2, HF2⟩
      case round =>
        obtain ⟨wa, rfl⟩ : ∃ wa : World, wa = wr := ⟨_, rfl⟩
        obtain ⟨a, X, ha, rfl, HRs, HDn, HRw, HFa⟩ := hrel
        clear HRs2 HRow2 HF2
        by_cases hlt : a < i
        · obtain ⟨p, hp⟩ : ∃ p, ps[a]? = some p := ⟨_, List.getElem?_eq_getElem (by rw [HL.out]; exact hlt)⟩
          have hp64 := H64.out p (List.mem_of_getElem? hp)
          have HP := hide hp
          obtain ⟨pn, hpn⟩ : ∃ pn, pn = p.1.length := ⟨_, rfl⟩
          rw [← hpn] at hp64
          obtain ⟨gR, rfl, _, _, hgo, _, _⟩ := HRw.out.storeN (k := a) (by omega)
          have HGo := hide hgo
          have hle := (HRs.out a p hp).le
          have HPn := hide hpn
          obtain ⟨Ap, hAp⟩ : ∃ A, A = p.2.1 := ⟨_, rfl⟩
          obtain ⟨cp, hcp⟩ : ∃ A, A = p.2.2 := ⟨_, rfl⟩
          have HQv : Hid (qVal p = .slice Ap pn cp) := hide (by unfold qVal; rw [hAp, hcp, hpn])
          have HAp := hide hAp
          have hcp2 : cp ≤ 9223372036854775807 := by have h := hle.2.2; unfold maxLen at h; rw [hcp]; exact h
          have hpc : pn ≤ cp := by rw [hpn, hcp]; exact hle.2.1
          have HCell := hide (fun (W : World) (h : Own W base 76 1 (.slice (some ⟨gR, 0, none⟩) i c) i (ps.map qVal)) => show W.cell? ⟨gR, a, none⟩ = some (.slice Ap pn cp) by
            obtain ⟨g', e, _, _, _, hc, _⟩ := h.storeN (k := a) (by omega)
            injection e with e
            injection e with e
            subst e
            rw [hc a (by omega), List.getElem?_map, hp, ← HQv.out]
            rfl)
          have haI : (a : Int) < (i : Int) := by omega
          clear hp hpn hAp hcp hle hgo
          have hc0 := HCell.out _ HRw.out
          go_wp2
          go_loopw [7] (fun ix wr => ∃ (k : Nat) (X : Nat → List Value), k ≤ pn ∧ ix = .int .i64 k ∧ Hid (RowsQ wr base ps X) ∧ Hid (DoneQ ps X a k) ∧ Hid (Own wr base 76 1 (.slice (some ⟨gR, 0, none⟩) i c) i (ps.map qVal)) ∧ Hid (Fr (fun k => base ≤ k) w wr)) (fun ix _ => pn - (intOf ix).toNat)
          case atStart => exact ⟨0, X, by omega, rfl, HRs, HDn, HRw, HFa⟩
          case round =>
            obtain ⟨wb, rfl⟩ : ∃ wb : World, wb = wr := ⟨_, rfl⟩
            clear HRs HDn HRw HFa hc0 X
            obtain ⟨k, X, hk, rfl, HRs, HDn, HRw, HFa⟩ := hrel
            have hc1 := HCell.out _ HRw.out
            by_cases hkn : k < pn
            · have hkI : (k : Int) < (pn : Int) := by omega
              have hw1 : IntKind.i64.wrap (1000 * (a : Int)) = 1000 * (a : Int) := IntWalk.i64_in _ (by omega)
              have hw2 : IntKind.i64.wrap (1000 * (a : Int) + (k : Int)) = 1000 * (a : Int) + (k : Int) := IntWalk.i64_in _ (by omega)
              have HT := hide (text4_any (1000 * a + k) wb.drew (by omega))
              rw [show ((1000 * a + k : Nat) : Int) = 1000 * (a : Int) + (k : Int) by omega] at HT
              have hc2 : wb.drew.cell? ⟨gR, a, none⟩ = some (.slice Ap pn cp) := hc1
              have HC2 := hide hc2
              obtain ⟨gE, hgE, hgb, hgl, hgo, _, hfz, hst⟩ := HRs.out.set HQ.out.apE HP.out (q := k * 3) (by rw [← HPn.out]; omega)
              rw [← HAp.out] at hgE
              subst hgE
              have hlX : (X a).length = pn * 3 := by have := (HRs.out a p HP.out).1; rw [HPn.out]; exact this
              have HU : Hid (∀ j, j < pn * 3 → ∃ u, wb.cell? ⟨gE, j, none⟩ = some u) := hide (fun j hj => by
                obtain ⟨g', e, _, _, _, hc, _, _⟩ := HRs.out.set HQ.out.apE HP.out (q := j) (by rw [← HPn.out]; exact hj)
                rw [← HAp.out] at e
                injection e with e
                injection e with e
                subst e
                exact ⟨_, hc.trans (List.getElem?_eq_getElem (by omega))⟩)
              have HFz : Hid (∀ (W : World), Fr No wb W → ∀ j, W.frozen? ⟨gE, j, none⟩ = false) := hide (fun W f j => by
                obtain ⟨g', e, _, _, _, _, hz, _⟩ := (HRs.out.fr0 f).set HQ.out.apE HP.out (q := k * 3) (by rw [← HPn.out]; omega)
                rw [← HAp.out] at e
                injection e with e
                injection e with e
                subst e
                exact hz j)
              have hne : gE ≠ gR := by
                intro e
                subst e
                obtain ⟨_, cs', fz', hh⟩ := (HRs.out a p HP.out).cellsT hgo
                exact HRw.out.ne_blk HGo.out hh (by decide)
              have HNe := hide hne
              clear hne
              go_wp2
              obtain ⟨T, hTd⟩ : ∃ T : ByteArray, T = ⟨(txt4 (1000 * a + k)).toArray⟩ := ⟨_, rfl⟩
              rw [← hTd] at HT
              have HTd := hide hTd
              have HX := hide (And.intro hgb (And.intro hgl hgo))
              have HlX := hide hlX
              clear hfz hst hTd hlX hgb hgl hgo
              go_region_held3 (fun W => W.cell? ⟨gR, a, none⟩ = some (.slice (some ⟨gE, 0, none⟩) pn cp)) (first | exact k30 | exact k20 | exact HC2.out) (first
                | (go_at_call 83; refine HT.out.mono ?_; rintro en w20 ⟨rfl, hfr⟩; have f20 : Fr No wb w20 := ((Fr.refl No wb).drew).tr hfr; have k20 := f20.cell hc1 (fun h => h); have HF20 := hide f20; obtain ⟨u0, hu0⟩ := HU.out (k * 3) (by omega); obtain ⟨u1, hu1⟩ := HU.out (k * 3 + 1) (by omega); obtain ⟨u2, hu2⟩ := HU.out (k * 3 + 2) (by omega); have m0 : w20.cell? ⟨gE, k * 3, none⟩ = some u0 := f20.cell hu0 (fun h => h); have m1 : w20.cell? ⟨gE, k * 3 + 1, none⟩ = some u1 := f20.cell hu1 (fun h => h); have m2 : w20.cell? ⟨gE, k * 3 + 2, none⟩ = some u2 := f20.cell hu2 (fun h => h); have z0 := HFz.out w20 f20 (k * 3); have z1 := HFz.out w20 f20 (k * 3 + 1); have z2 := HFz.out w20 f20 (k * 3 + 2); have k30 : (((w20.setCell ⟨gE, k * 3, none⟩ (.string T)).setCell ⟨gE, k * 3 + 1, none⟩ (.string ⟨#[]⟩)).setCell ⟨gE, k * 3 + 2, none⟩ (.slice none 0 0)).cell? ⟨gR, a, none⟩ = some (.slice (some ⟨gE, 0, none⟩) pn cp) := (World.cell?_setCell_other _ ⟨gE, k * 3 + 2, none⟩ ⟨gR, a, none⟩ _ (by intro h; injection h with h; exact HNe.out h)).trans ((World.cell?_setCell_other _ ⟨gE, k * 3 + 1, none⟩ ⟨gR, a, none⟩ _ (by intro h; injection h with h; exact HNe.out h)).trans ((World.cell?_setCell_other _ ⟨gE, k * 3, none⟩ ⟨gR, a, none⟩ _ (by intro h; injection h with h; exact HNe.out h)).trans k20))))
              go_wp2
              go_roundw
              case measure => simp [intOf]; omega
              case rel =>
                have hkp : k < p.1.length := by rw [← HPn.out]; exact hkn
                have r20 := (HRs.out.fr0 HF20.out).set3 HQ.out.apE HP.out hkp HAp.out.symm (.string T) (.string ⟨#[]⟩) (.slice none 0 0)
                have d20 := DoneQ.step (u1 := .string ⟨#[]⟩) (u2 := .slice none 0 0) HDn.out HP.out (by rw [HlX.out, HPn.out]) hkp
                rw [← HTd.out] at d20
                have f3 : Fr (Is gE) w20 (((w20.setCell ⟨gE, k * 3, none⟩ (.string T)).setCell ⟨gE, k * 3 + 1, none⟩ (.string ⟨#[]⟩)).setCell ⟨gE, k * 3 + 2, none⟩ (.slice none 0 0)) := (((Fr.refl (Is gE) w20).put _ _).put _ _).put _ _
                have hh : ∃ cs fz, w20.heap[gE]? = some (.cells cs 109 fz) := by
                  obtain ⟨_, cs', fz', h⟩ := ((HRs.out.fr0 HF20.out) a p HP.out).cellsT HX.out.2.2
                  exact ⟨cs', fz', h⟩
                obtain ⟨cs', fz', hh⟩ := hh
                exact ⟨k + 1, _, by omega, by go_num, hide r20, hide d20, hide ((HRw.out.fr0 HF20.out).off f3 (off_is hh (by decide))), hide ((HFa.out.tr HF20.out).trans f3 (fun j _ e => by have e : j = gE := e; rw [e]; exact HX.out.1))⟩
            · obtain rfl : k = pn := by omega
              have HDe := hide (show DoneQ ps X (a + 1) 0 from DoneQ.next (by rw [← HPn.out]; exact HDn.out) HP.out)
              clear hkn
              go_wp2
              go_roundw
              case measure => simp [intOf]; omega
              case rel => exact ⟨a + 1, X, by omega, by go_num, HRs, HDe, HRw, HFa⟩
        · obtain rfl : a = i := by omega
          clear hlt
          obtain ⟨wb, hwb⟩ : ∃ wb : World, wb = wa := ⟨_, rfl⟩
          have HRsb : Hid (RowsQ wb base ps X) := hide (by rw [hwb]; exact HRs.out)
          have HRwb : Hid (Own wb base 76 1 (.slice A a c) a (ps.map qVal)) := hide (by rw [hwb]; exact HRw.out)
          have HFb : Hid (Fr (fun k => base ≤ k) w wb) := hide (by rw [hwb]; exact HFa.out)
          rw [← hwb]
          clear hwb HRs HRw HFa
          go_wp2_with (fail)
          go_loopw [8, 9] (fun ix _ wr => ∃ (b : Nat), b ≤ a ∧ ix = .int .i64 b ∧ Hid (Fr No wb wr)) (fun ix _ _ => a - (intOf ix).toNat)
          case atStart => exact ⟨0, by omega, rfl, hide (Fr.refl _ _)⟩
          case round =>
            obtain ⟨wc, rfl⟩ : ∃ wc : World, wc = wr := ⟨_, rfl⟩
            obtain ⟨b, hb2, rfl, HFc⟩ := hrel
            by_cases hlt : b < a
            · obtain ⟨p, hp⟩ : ∃ p, ps[b]? = some p := ⟨_, List.getElem?_eq_getElem (by rw [HL.out]; exact hlt)⟩
              have hp64 := H64.out p (List.mem_of_getElem? hp)
              have HP := hide hp
              obtain ⟨pn, hpn⟩ : ∃ pn, pn = p.1.length := ⟨_, rfl⟩
              rw [← hpn] at hp64
              obtain ⟨gR, rfl, _, _, _, hcell, _⟩ := HRwb.out.storeN (k := b) (by omega)
              have hci := hcell b (by omega)
              have hle := (HRsb.out b p hp).le
              have HPn := hide hpn
              obtain ⟨Ap, hAp⟩ : ∃ A, A = p.2.1 := ⟨_, rfl⟩
              obtain ⟨cp, hcp⟩ : ∃ A, A = p.2.2 := ⟨_, rfl⟩
              have HAp := hide hAp
              have hcp2 : cp ≤ 9223372036854775807 := by have h := hle.2.2; unfold maxLen at h; rw [hcp]; exact h
              have hpc : pn ≤ cp := by rw [hpn, hcp]; exact hle.2.1
              rw [List.getElem?_map, hp] at hci
              have hci : wb.cell? ⟨gR, b, none⟩ = some (.slice Ap pn cp) := by rw [hAp, hpn, hcp]; exact hci
              have HCi := hide hci
              have hbI : (b : Int) < (a : Int) := by omega
              have hc0 := HFc.out.cell HCi.out (fun h => h)
              clear hp hpn hAp hcp hle hcell hci
              go_wp2
              go_loopw [9] (fun ix wr => ∃ (k : Nat), k ≤ pn ∧ ix = .int .i64 k ∧ Hid (Fr No wb wr)) (fun ix _ => pn - (intOf ix).toNat)
              case atStart => exact ⟨0, by omega, rfl, HFc⟩
              case round =>
                obtain ⟨wd, rfl⟩ : ∃ wd : World, wd = wr := ⟨_, rfl⟩
                clear HFc hc0
                obtain ⟨k, hk, rfl, HFd⟩ := hrel
                have hc1 := HFd.out.cell HCi.out (fun h => h)
                by_cases hkn : k < pn
                · have hkI : (k : Int) < (pn : Int) := by omega
                  obtain ⟨gE, hgE, _, _, _, hce, _, _⟩ := HRsb.out.set HQ.out.apE HP.out (q := k * 3) (by rw [← HPn.out]; omega)
                  rw [← HAp.out] at hgE
                  subst hgE
                  have hdn : (X b)[k * 3]? = some (.string ⟨(txt4 (1000 * b + k)).toArray⟩) := HDn.out b k p HP.out (by rw [← HPn.out]; exact hkn) (.inl (by omega))
                  rw [hdn] at hce
                  have hce2 := HFd.out.cell hce (fun h => h)
                  have hv := value4_any (1000 * b + k) wd (by omega)
                  rw [show ((1000 * b + k : Nat) : Int) = 1000 * (b : Int) + (k : Int) by omega] at hv
                  obtain ⟨T, hTd⟩ : ∃ T : ByteArray, T = ⟨(txt4 (1000 * b + k)).toArray⟩ := ⟨_, rfl⟩
                  rw [← hTd] at hv hce2
                  have HV := hide hv
                  clear hdn hce hv hTd
                  go_wp2_with (fail)
                  refine HV.out.mono ?_
                  rintro en we ⟨rfl, qe, hqe⟩
                  have HFe : Hid (Fr No wb we) := hide (HFd.out.tr (fr_of_drewN hqe))
                  clear hqe
                  go_wp2
                  exact ⟨⟨k + 1, by omega, by go_num, HFe⟩, by simp [intOf]; omega⟩
                · obtain rfl : k = pn := by omega
                  clear hkn
                  go_wp2
                  go_roundw
                  case measure => simp [intOf]; omega
                  case rel => exact ⟨b + 1, by omega, by go_num, HFd⟩
            · go_wp2
              go_ret
              exact ⟨rfl, HFb.out.tr HFc.out⟩
end Go.Proofs.Ytpnhnnhocekchaa
