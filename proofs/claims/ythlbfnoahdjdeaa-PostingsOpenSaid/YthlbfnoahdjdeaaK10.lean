/- Several texts in one: PoRw, PoRt, PoRr, RgMem. -/
import Derived.Test.YthlbfnoahdjdeaaK9
import Derived.Deep.DeepCutAuto
import Derived.RangeFuncNested
import Derived.RangeFuncBound
import Derived.RangeFuncCalls
import Derived.RangeFuncLeaves
import Derived.Shelf.Abstract
import Derived.Shelf.RegionOpen
import Derived.WalkKit
import Derived.OwnWalkIn
import Derived.TacticsInMore
import Derived.LoopNIn
import Derived.LoopIn
namespace Go.Proofs.Ythlbfnoahdjdeaa
set_option linter.unusedVariables false
set_option linter.unusedSimpArgs false
open Go.RowKit

/-- a block that rows may be made of. -/
structure RowOk (a : Int) (b : List Po) : Prop where
  a1 : -1 ≤ a
  a2 : a < 16384
  d : ∀ x ∈ b, 0 ≤ x.1 ∧ x.1 < 16384 ∧ x.2 ≠ [] ∧ ∀ y ∈ x.2, 0 ≤ y ∧ y ≤ 1048576
  s : sumP b ≤ 1048576
  n : b.length ≤ 16384
theorem RowOk.last {a : Int} {b : List Po} (h : RowOk a b) (i : Nat) : -1 ≤ lastOr a (b.take i) ∧ lastOr a (b.take i) < 16384 := by
  rcases List.eq_nil_or_concat (b.take i) with h1 | ⟨m, x, h1⟩
  · rw [h1]; exact ⟨h.a1, h.a2⟩
  · rw [h1, List.concat_eq_append, lastOr_snoc]
    have := h.d x (List.mem_of_mem_take (by rw [h1]; simp))
    omega
theorem sumP_take {b : List Po} (i : Nat) : sumP (b.take i) ≤ sumP b := by
  have h := sumP_app (b.take i) (b.drop i)
  rw [List.take_append_drop] at h
  omega
theorem docs_in {a : Int} {b : List Po} (h : RowOk a b) : InI (docsL a b) := by
  intro x hx
  have : ∀ (a : Int) (b : List Po), (-1 ≤ a ∧ a < 16384) → (∀ x ∈ b, 0 ≤ x.1 ∧ x.1 < 16384) → ∀ x ∈ docsL a b, -20000 ≤ x ∧ x ≤ 20000 := by
    intro a b
    induction b generalizing a with
    | nil => intro _ _ x hx; cases hx
    | cons y r ih =>
      intro ha hb x hx
      have hy := hb y List.mem_cons_self
      rcases List.mem_cons.1 hx with rfl | hx
      · omega
      · exact ih y.1 ⟨by omega, hy.2⟩ (fun z hz => hb z (List.mem_cons_of_mem _ hz)) x hx
  have := this a b ⟨h.a1, h.a2⟩ (fun x hx => ⟨(h.d x hx).1, (h.d x hx).2.1⟩) x hx
  omega
theorem sumP_mem {b : List Po} {x : Po} (h : x ∈ b) : x.2.length ≤ sumP b := by
  induction b with
  | nil => cases h
  | cons y r ih =>
    have e : sumP (y :: r) = y.2.length + sumP r := by simp [sumP]
    rcases List.mem_cons.1 h with rfl | h
    · omega
    · have := ih h; omega
theorem freqs_in {a : Int} {b : List Po} (h : RowOk a b) : InI (freqsL b) := by
  intro x hx
  obtain ⟨y, hy, rfl⟩ := List.mem_map.1 hx
  have h1 := sumP_mem hy
  have := h.s
  omega
theorem delta_in : ∀ (a : Int) (p : List Int), (0 ≤ a ∧ a ≤ 1048576) → (∀ y ∈ p, 0 ≤ y ∧ y ≤ 1048576) → ∀ x ∈ deltaL a p, -1048576 ≤ x ∧ x ≤ 1048576
  | _, [], _, _, x, hx => nomatch hx
  | a, y :: r, ha, hp, x, hx => by
    have hy := hp y List.mem_cons_self
    rcases List.mem_cons.1 hx with rfl | hx
    · omega
    · exact delta_in y r hy (fun z hz => hp z (List.mem_cons_of_mem _ hz)) x hx
theorem places_in {a : Int} {b : List Po} (h : RowOk a b) : InI (placesL b) := by
  intro x hx
  obtain ⟨y, hy, hx⟩ := List.mem_flatMap.1 hx
  have := delta_in 0 y.2 (by omega) (h.d y hy).2.2.2 x hx
  omega
theorem rowsB_le {a : Int} {b : List Po} (h : RowOk a b) : (rowsB a b).length ≤ 9000000 := by
  have h1 := putR_le (docs_in h)
  have h2 := putR_le (freqs_in h)
  have h3 := putR_le (places_in h)
  rw [docsL_len] at h1
  rw [freqsL_len] at h2
  rw [placesL_len] at h3
  have := h.n
  have := h.s
  rw [rowsB, List.length_append, List.length_append]
  omega
def lastPl (p : List Int) (k : Nat) : Int := if k = 0 then 0 else p.getD (k - 1) 0
theorem deltaL_snoc : ∀ (a : Int) (p : List Int) (x : Int), deltaL a (p ++ [x]) = deltaL a p ++ [x - (if p = [] then a else p.getD (p.length - 1) 0)]
  | a, [], x => by simp [deltaL]
  | a, y :: r, x => by
    rw [List.cons_append, deltaL, deltaL, deltaL_snoc y r x]
    cases r with
    | nil => simp
    | cons z t => simp
theorem take_getZ {p : List Int} {k : Nat} (h : k < p.length) : p.take (k + 1) = p.take k ++ [p.getD k 0] := by
  rw [List.take_succ_eq_append_getElem h]
  congr 2
  simp [List.getElem?_eq_getElem h]
theorem delta_take {p : List Int} {k : Nat} (h : k < p.length) : deltaL 0 (p.take (k + 1)) = deltaL 0 (p.take k) ++ [p.getD k 0 - lastPl p k] := by
  have e : (if p.take k = [] then (0 : Int) else (p.take k).getD ((p.take k).length - 1) 0) = lastPl p k := by
    unfold lastPl
    by_cases h0 : k = 0
    · subst h0; simp
    · have h1 : p.take k ≠ [] := fun e => by have := congrArg List.length e; rw [List.length_take, List.length_nil] at this; omega
      have h2 : (p.take k).length - 1 = k - 1 := by rw [List.length_take]; omega
      rw [if_neg h1, if_neg h0, h2, List.getD, List.getD, List.getElem?_take_of_lt (by omega)]
  rw [take_getZ h, deltaL_snoc, e]
theorem placesL_snoc (b : List Po) (x : Po) : placesL (b ++ [x]) = placesL b ++ deltaL 0 x.2 := by simp [placesL]
theorem freqsL_snoc (b : List Po) (x : Po) : freqsL (b ++ [x]) = freqsL b ++ [(x.2.length : Int) - 1] := by simp [freqsL]

set_option maxRecDepth 100000 in
set_option maxHeartbeats 8000000 in
theorem rows_any (A : Option Addr) (n c B : Nat) (a : Int) (b : List Po) (w : World) (hl : b.length = n) (hn : n ≤ c) (hc : c ≤ maxLen) (hr : RdPo w B A b) (hok : RowOk a b) :
    Calls Try.prog 43 #[.slice A n c, .int .i64 a] w (GivesB w (rowsB a b)) := by
  have HL := hide hl
  have HR := hide hr
  have HOk := hide hok
  have hn16 : n ≤ 16384 := by rw [← hl]; exact hok.n
  have HSum := hide hok.s
  unfold maxLen at hc
  obtain ⟨i0, hi, hz, hsz, hby⟩ := info_parts Try.infoI64
  have HF0 := hide (Fr.refl No w)
  have H30 : Hid (R3 w w.heap.size (.slice none 0 0) (.slice none 0 0) (.slice none 0 0) [] [] []) := hide (R3.nil _ _)
  clear hl hr hok
  go_enter Try.func43, Try.ntmps43
  go_wp2_with (fail)
  go_loopw [15, 1, 5, 6, 7] (fun ix la vd vf vp wr => ∃ (i : Nat) (last : Int), i ≤ n ∧ ix = .int .i64 i ∧ la = .int .i64 last ∧ Hid (last = lastOr a (b.take i)) ∧ Hid (R3 wr w.heap.size vd vf vp (docsL a (b.take i)) (freqsL (b.take i)) (placesL (b.take i))) ∧ Hid (Fr No w wr)) (fun ix _ _ _ _ _ => n - (intOf ix).toNat)
  case atStart => exact ⟨0, a, Nat.zero_le _, rfl, rfl, hide rfl, H30, HF0⟩
  case round =>
    obtain ⟨wo, rfl⟩ : ∃ wo : World, wo = wr := ⟨_, rfl⟩
    obtain ⟨i, last, hin, rfl, rfl, HLa, H3, HFr⟩ := hrel
    clear H30 HF0
    by_cases hlt : i < n
    · have hil : i < b.length := by rw [HL.out]; exact hlt
      obtain ⟨ad, Ak, ck, rfl, _, k1, k2, h4, h5, hrp⟩ := HR.out.at hil
      replace k1 := HFr.out.cell k1 (fun h => h)
      replace k2 := HFr.out.cell k2 (fun h => h)
      obtain ⟨x, hx⟩ : ∃ x, b.getD i noPo = x := ⟨_, rfl⟩
      have hxm : x ∈ b := by rw [← hx, List.getD, List.getElem?_eq_getElem hil]; exact List.getElem_mem _
      rw [hx] at k1 k2 h4 hrp
      have HTk : Hid (b.take (i + 1) = b.take i ++ [x]) := hide (by rw [take_snocP hil, hx])
      have hxo := HOk.out.d _ hxm
      have hml := sumP_mem hxm
      have hlb := HOk.out.last i
      rw [← HLa.out] at hlb
      obtain ⟨d, p⟩ := x
      dsimp only at k1 k2 h4 hrp hxo hml
      obtain ⟨hd1, hd2, hd3, hd4⟩ := hxo
      obtain ⟨m, hm⟩ : ∃ m, p.length = m := ⟨_, rfl⟩
      have hm0 : 0 < m := by rw [← hm]; exact List.length_pos_iff.2 hd3
      rw [hm] at k2 h4 hml
      have HM := hide hm
      have HRp := hide hrp
      have HPy := hide hd4
      have i1 : (0 : Int) ≤ (i : Int) := by omega
      have i2 : (i : Int) < (n : Int) := by omega
      have hmb : m ≤ 1048576 := by have := HSum.out; omega
      obtain ⟨x1, hx1⟩ : ∃ x1, d - last = x1 := ⟨_, rfl⟩
      obtain ⟨x2, hx2⟩ : ∃ x2, x1 - 1 = x2 := ⟨_, rfl⟩
      obtain ⟨f1, hf1⟩ : ∃ f1 : Nat, m - 1 = f1 := ⟨_, rfl⟩
      have hf2 : (m : Int) - 1 = (f1 : Int) := by omega
      have HD2 : Hid (docsL a (b.take (i + 1)) = docsL a (b.take i) ++ [x2]) := hide (by rw [HTk.out, docsL_snoc, ← HLa.out, ← hx2, ← hx1])
      have HF2 : Hid (freqsL (b.take (i + 1)) = freqsL (b.take i) ++ [(f1 : Int)]) := hide (by rw [HTk.out, freqsL_snoc]; dsimp only; rw [HM.out, hf2])
      have HD1 : Hid ((docsL a (b.take i)).length = i) := hide (by rw [docsL_len, List.length_take]; omega)
      have HF1l : Hid ((freqsL (b.take i)).length = i) := hide (by rw [freqsL_len, List.length_take]; omega)
      obtain ⟨np, hnp⟩ : ∃ np, (placesL (b.take i)).length = np := ⟨_, rfl⟩
      have HNp := hide hnp
      have hnpm : np + m ≤ 1048576 := by
        have h1 := sumP_take (b := b) (i + 1)
        rw [HTk.out, sumP_snoc] at h1
        rw [placesL_len] at hnp
        have := HSum.out
        dsimp only at h1
        rw [HM.out] at h1
        omega
      have h3d := H3.out.d
      rw [HD1.out] at h3d
      obtain ⟨w1, hw1⟩ : ∃ W, W = wo.alloc (.cells #[.int .i64 d, .slice Ak m ck] 58) := ⟨_, rfl⟩
      obtain ⟨E, hE⟩ : ∃ E, E = wo.heap.size := ⟨_, rfl⟩
      have hq : w1.heap[E]? = some (.cells #[.int .i64 d, .slice Ak m ck] 58 (0, 0)) := by rw [hw1, hE]; exact heap_alloc_new wo _
      have fa : Fr No wo w1 := by rw [hw1]; exact (Fr.refl No wo).alloc _
      have HFw1 := hide (HFr.out.tr fa)
      have H31 := hide (H3.out.fr0 fa)
      have HQ1 := hide hq
      have HW1 := hide hw1
      have HE := hide hE
      have q1 : w1.cell? ⟨E, 0, none⟩ = some (.int .i64 d) := cell_of_row _ _ 0 _ _ _ hq
      have HS1 := hide (Src.one (P := Try.prog) w1 (e := 2) Try.underlying79 (.int .i64 x2) rfl)
      have HO1 := hide ((h3d.fr0 fa).fr0 ((Fr.refl No w1).alloc (.cells #[.int .i64 x2] 2)))
      have b1 : (i + 1) * 8 ≤ 140737488355328 := by omega
      have b2 : i + 1 ≤ maxLen := by unfold maxLen; omega
      have b3 : w.heap.size ≤ (w1.alloc (.cells #[.int .i64 x2] 2)).heap.size := by have := HFw1.out.size; simp; omega
      clear hw1 hE hq fa hx hxm hil hrp hm hd4 hd3 h3d hnp hml hf1
      go_upto_region 5 with (fail)
      rw [← HW1.out, ← HE.out]
      clear k1 k2
      go_upto_region 6 with (first | (at_builtin; refine wpList_append_gen _ rfl (.tmp 19) (.tmp 25) 79 79 rfl w.heap.size 2 i0 (.int .i64 0) 1 8 Try.underlying79 hi hz hsz hby rfl u5 i (iz .i64 (docsL a (b.take i))) rfl HO1.out _ 1 [.int .i64 x2] rfl HS1.out b1 b2 b3 ?_; intro v2 w2 hown hfr hat; have HO2 := hide hown; have HF3 := hide hfr; have HAt := hide hat; clear hown hfr hat) | fail)
      have fb : Fr No w1 (w1.alloc (.cells #[.int .i64 x2] 2)) := (Fr.refl No w1).alloc _
      have HFw2 : Hid (Fr No w w2) := hide ((HFw1.out.tr fb).own HF3.out (fun k hk => .inl (HO1.out.lt k hk).1))
      have H32 := hide (H31.out.app fb (by rw [HD1.out]; exact HO2.out) HF3.out HAt.out).rot
      rw [← HD2.out] at H32
      have hq2 := HF3.out.blk (fb.blk HQ1.out (fun h => h)) (fun e => HO1.out.ne_blk e (fb.blk HQ1.out (fun h => h)) (by decide))
      have HQ2 := hide hq2
      have q2 : w2.cell? ⟨E, 0, none⟩ = some (.int .i64 d) := cell_of_row _ _ 0 _ _ _ hq2
      have q3 : w2.cell? ⟨E, 1, none⟩ = some (.slice Ak m ck) := cell_of_row _ _ 1 _ _ _ hq2
      have h3f := H32.out.d
      rw [HF1l.out] at h3f
      have HS2 := hide (Src.one (P := Try.prog) w2 (e := 2) Try.underlying79 (.int .i64 (f1 : Int)) rfl)
      have HO3 := hide (h3f.fr0 ((Fr.refl No w2).alloc (.cells #[.int .i64 (f1 : Int)] 2)))
      have b4 : w.heap.size ≤ (w2.alloc (.cells #[.int .i64 (f1 : Int)] 2)).heap.size := by have := HFw2.out.size; simp; omega
      clear fb hq2 q1 h3f HO1 HS1 b3 H3 H31 HFr HO2 HF3 HAt HQ1
      go_upto_region 8 with (first | (at_builtin; refine wpList_append_gen _ rfl (.tmp 29) (.tmp 34) 79 79 rfl w.heap.size 2 i0 (.int .i64 0) 1 8 Try.underlying79 hi hz hsz hby rfl u6 i (iz .i64 (freqsL (b.take i))) rfl HO3.out _ 1 [.int .i64 (f1 : Int)] rfl HS2.out b1 b2 b4 ?_; intro v3 w3 hown hfr hat; have HO4 := hide hown; have HF4 := hide hfr; have HAt := hide hat; clear hown hfr hat) | fail)
      have fb : Fr No w2 (w2.alloc (.cells #[.int .i64 (f1 : Int)] 2)) := (Fr.refl No w2).alloc _
      have HFw3 : Hid (Fr No w w3) := hide ((HFw2.out.tr fb).own HF4.out (fun k hk => .inl (HO3.out.lt k hk).1))
      have H33 := hide (H32.out.app fb (by rw [HF1l.out]; exact HO4.out) HF4.out HAt.out).rot
      rw [← HF2.out] at H33
      have hq3 := HF4.out.blk (fb.blk HQ2.out (fun h => h)) (fun e => HO3.out.ne_blk e (fb.blk HQ2.out (fun h => h)) (by decide))
      have q4 : w3.cell? ⟨E, 1, none⟩ = some (.slice Ak m ck) := cell_of_row _ _ 1 _ _ _ hq3
      have HRp3 := hide HRp.out
      clear fb hq3 q2 q3 HO3 HS2 b4 H32 HO4 HF4 HAt HQ2
      have HPl0 : Hid (R3 w3 w.heap.size u7 v2 v3 (placesL (b.take i) ++ deltaL 0 (p.take 0)) (docsL a (b.take (i + 1))) (freqsL (b.take (i + 1)))) := hide (by rw [List.take_zero, deltaL, List.append_nil]; exact H33.out)
      clear H33
      go_wp2_with (fail)
      go_loopw [39, 10, 7] (fun kx ax vp wx => ∃ k : Nat, k ≤ m ∧ kx = .int .i64 k ∧ ax = .int .i64 (lastPl p k) ∧ Hid (R3 wx w.heap.size vp v2 v3 (placesL (b.take i) ++ deltaL 0 (p.take k)) (docsL a (b.take (i + 1))) (freqsL (b.take (i + 1)))) ∧ Hid (Fr No w wx)) (fun kx _ _ _ => m - (intOf kx).toNat)
      case atStart => exact ⟨0, Nat.zero_le _, rfl, rfl, HPl0, HFw3⟩
      case round =>
        obtain ⟨wz, rfl⟩ : ∃ wz : World, wz = wr := ⟨_, rfl⟩
        obtain ⟨k, hk, rfl, rfl, HPk, HFz⟩ := hrel
        clear HPl0 HFw3
        by_cases hkm : k < m
        · have hkp : k < p.length := by rw [HM.out]; exact hkm
          obtain ⟨ad2, rfl, _, kp1⟩ := cellInt (HRp3.out.fr0 HFz.out) hkp
          have hx3 := HPy.out _ (getZ_mem hkp)
          have hy3 : 0 ≤ lastPl p k ∧ lastPl p k ≤ 1048576 := by
            unfold lastPl
            split
            · omega
            · exact HPy.out _ (getZ_mem (by omega))
          have HDe : Hid (deltaL 0 (p.take (k + 1)) = deltaL 0 (p.take k) ++ [p.getD k 0 - lastPl p k]) := hide (delta_take hkp)
          have HLp : Hid (lastPl p (k + 1) = p.getD k 0) := hide (by unfold lastPl; rw [if_neg (by omega), Nat.add_sub_cancel])
          have hnk : (placesL (b.take i) ++ deltaL 0 (p.take k)).length = np + k := by rw [List.length_append, HNp.out, deltaL_len, List.length_take]; omega
          obtain ⟨nk, hnk2⟩ : ∃ nk, np + k = nk := ⟨_, rfl⟩
          rw [hnk2] at hnk
          have HNk := hide hnk
          obtain ⟨x, hx⟩ : ∃ x, p.getD k 0 = x := ⟨_, rfl⟩
          obtain ⟨y, hy⟩ : ∃ y, lastPl p k = y := ⟨_, rfl⟩
          obtain ⟨z, hz3⟩ : ∃ z, x - y = z := ⟨_, rfl⟩
          rw [hx, hy, hz3] at HDe
          rw [hx] at HLp
          rw [hx] at kp1 hx3
          rw [hy] at hy3
          rw [hy]
          have h3p := HPk.out.d
          rw [hnk] at h3p
          have HO5 := hide (h3p.fr0 ((Fr.refl No wz).alloc (.cells #[.int .i64 z] 2)))
          have HS5 := hide (Src.one (P := Try.prog) wz (e := 2) Try.underlying79 (.int .i64 z) rfl)
          have b5 : (nk + 1) * 8 ≤ 140737488355328 := by omega
          have b6 : nk + 1 ≤ maxLen := by unfold maxLen; omega
          have b7 : w.heap.size ≤ (wz.alloc (.cells #[.int .i64 z] 2)).heap.size := by have := HFz.out.size; simp; omega
          have i3 : (0 : Int) ≤ (k : Int) := by omega
          have i4 : (k : Int) < (m : Int) := by omega
          obtain ⟨hx4, hx5⟩ := hx3
          obtain ⟨hy4, hy5⟩ := hy3
          clear hkp hnk hx hy h3p hnk2
          go_wp2_with (first | (at_builtin; refine wpList_append_gen _ rfl (.tmp 43) (.tmp 47) 79 79 rfl w.heap.size 2 i0 (.int .i64 0) 1 8 Try.underlying79 hi hz hsz hby rfl u7 nk (iz .i64 (placesL (b.take i) ++ deltaL 0 (p.take k))) rfl HO5.out _ 1 [.int .i64 z] rfl HS5.out b5 b6 b7 ?_; intro v5 w5 hown hfr hat; have HO6 := hide hown; have HF5 := hide hfr; have HAt := hide hat; clear hown hfr hat) | fail)
          have fb : Fr No wz (wz.alloc (.cells #[.int .i64 z] 2)) := (Fr.refl No wz).alloc _
          have HFw5 : Hid (Fr No w w5) := hide ((HFz.out.tr fb).own HF5.out (fun k hk => .inl (HO5.out.lt k hk).1))
          have H35 := hide (HPk.out.app fb (by rw [HNk.out]; exact HO6.out) HF5.out HAt.out)
          rw [List.append_assoc, ← HDe.out] at H35
          go_roundw
          case rel => exact ⟨k + 1, by omega, by go_num, by rw [HLp.out], H35, HFw5⟩
          case measure => simp [intOf]; omega
        · have hke : k = m := by omega
          subst hke
          have HPe : Hid (placesL (b.take i) ++ deltaL 0 (p.take k) = placesL (b.take (i + 1))) := hide (by rw [HTk.out, placesL_snoc]; dsimp only; rw [List.take_of_length_le (l := p) (by rw [HM.out]; exact Nat.le_refl _)])
          rw [HPe.out] at HPk
          have H36 := hide HPk.out.rot
          have HLs : Hid (d = lastOr a (b.take (i + 1))) := hide (by rw [HTk.out, lastOr_snoc])
          have d5 : decide ((k : Int) < (k : Int)) = false := by simp
          go_wp2_with (fail)
          go_roundw
          case rel => exact ⟨i + 1, d, by omega, by go_num, rfl, HLs, H36, HFz⟩
          case measure => simp [intOf]; omega
    · have hie : i = n := by omega
      subst hie
      have HTa : Hid (b.take i = b) := hide (List.take_of_length_le (by rw [HL.out]; exact Nat.le_refl _))
      rw [HTa.out] at H3
      have hdl := docsL_len a b
      have hfl := freqsL_len b
      have hpl := placesL_len b
      rw [HL.out] at hdl hfl
      have HdI := hide (docs_in HOk.out)
      have HfI := hide (freqs_in HOk.out)
      have HpI := hide (places_in HOk.out)
      have HRb := hide (rowsB_le HOk.out)
      have HRw : Hid (rowsB a b = putR (docsL a b) ++ putR (freqsL b) ++ putR (placesL b)) := hide rfl
      rw [HRw.out] at HRb
      generalize docsL a b = D at H3 HdI hdl HRb HRw
      generalize freqsL b = F at H3 HfI hfl HRb HRw
      generalize placesL b = P at H3 HpI hpl HRb HRw
      obtain ⟨np, hnp⟩ : ∃ np, P.length = np := ⟨_, rfl⟩
      have hnb : np ≤ 1048576 := by have := HSum.out; omega
      have hH3 := H3.out
      obtain ⟨Ad, cd, rfl, d1, d2, _, d4, _⟩ := hH3.d.form
      obtain ⟨Af, cf, rfl, f1, f2, _, f4, _⟩ := hH3.f.form
      obtain ⟨Ap, cp, rfl, p1, p2, _, p4, _⟩ := hH3.p.form
      rw [hdl] at d1 ⊢
      rw [hfl] at f1 ⊢
      rw [hnp] at p1 ⊢
      have HPd := hide (put_any Ad i cd wo.heap.size D wo hdl HdI.out d1 d2 (by omega) (Nat.le_refl _) d4)
      have HPf := hide (fun W (hW : Fr No wo W) => put_any Af i cf wo.heap.size F W hfl HfI.out f1 f2 (by omega) hW.size (f4.fr0 hW))
      have HPp := hide (fun W (hW : Fr No wo W) => put_any Ap np cp wo.heap.size P W hnp HpI.out p1 p2 hnb hW.size (p4.fr0 hW))
      obtain ⟨xs, hxs⟩ : ∃ xs, putR D = xs := ⟨_, rfl⟩
      obtain ⟨ys, hys⟩ : ∃ ys, putR F = ys := ⟨_, rfl⟩
      obtain ⟨zs, hzs⟩ : ∃ zs, putR P = zs := ⟨_, rfl⟩
      rw [hxs] at HPd HRb HRw
      rw [hys] at HPf HRb HRw
      rw [hzs] at HPp HRb HRw
      have d9 : decide ((i : Int) < (i : Int)) = false := by simp
      clear hH3 d1 d2 d4 f1 f2 f4 p1 p2 p4 hxs hys hzs hdl hfl hpl hnp hlt HdI HfI HpI H3 HTa
      go_wp2_with (fail)
      refine HPd.out.mono ?_
      rintro en w1 ⟨v1, rfl, hown, hfr⟩
      have HX1 := hide hown
      have HF1 := hide hfr
      clear hown hfr
      go_wp2_with (fail)
      refine (HPf.out w1 HF1.out).mono ?_
      rintro en w2 ⟨v2, rfl, hown, hfr⟩
      have HY1 := hide hown
      have HX2 := hide (HX1.out.fr0 hfr)
      have HF2 := hide (HF1.out.tr hfr)
      clear hown hfr
      go_wp2_with (fail)
      refine (HPp.out w2 HF2.out).mono ?_
      rintro en w3 ⟨v3, rfl, hown, hfr⟩
      have HX3 := hide (HX2.out.fr0 hfr)
      have HY3 := hide (HY1.out.fr0 hfr)
      have HZ3 := hide hown
      have HF3 := hide (HFr.out.tr (HF2.out.tr hfr))
      clear hown hfr
      obtain ⟨A1, c1, rfl, a1, a2, _, a4, _⟩ := HX3.out.form
      obtain ⟨A2, c2, rfl, a5, a6, _, a8, _⟩ := HY3.out.form
      obtain ⟨A3, c3, rfl, a9, a10, _, a12, _⟩ := HZ3.out.form
      have HB3 := hide (BSl.three (e := 25) a1 a2 a4 a5 a6 a8 a9 a10 a12)
      have HCo := hide (concat_any (some ⟨w3.heap.size, 0, none⟩) 3 3 (w3.heap.size + 1) [xs, ys, zs] _ rfl (Nat.le_refl _) (by unfold maxLen; omega) (by simp) HB3.out (by have := HRb.out; simp at this ⊢; omega))
      clear a1 a2 a4 a5 a6 a8 a9 a10 a12 HX1 HX2 HY1 HPd HPf HPp
      go_wp2_with (fail)
      refine HCo.out.mono ?_
      rintro en w4 ⟨v4, rfl, hown, hfr⟩
      have HO4 := hide hown
      have HF4 : Hid (Fr No w w4) := hide ((HF3.out.alloc _).tr hfr)
      have HS4 : Hid (w.heap.size ≤ w3.heap.size) := hide HF3.out.size
      clear hown hfr
      go_wp2_with (fail)
      go_ret
      have h9 := HO4.out
      rw [show [xs, ys, zs].flatten = xs ++ ys ++ zs by simp] at h9
      rw [HRw.out]
      exact ⟨v4, rfl, h9.lower (Nat.le_trans HS4.out ((Fr.refl No w3).alloc _).size), HF4.out⟩
end Go.Proofs.Ythlbfnoahdjdeaa
namespace Go.Proofs.Ythlbfnoahdjdeaa
set_option linter.unusedVariables false
set_option linter.unusedSimpArgs false
open Go.RowKit

theorem bnd_iff {p : List Int} (hp : p ≠ []) (hu : upL p) : (∀ y ∈ p, 0 ≤ y ∧ y ≤ 1048576) ↔ 0 ≤ p.getD 0 0 ∧ p.getD (p.length - 1) 0 ≤ 1048576 := by
  have hl : 0 < p.length := List.length_pos_iff.2 hp
  constructor
  · intro h
    exact ⟨(h _ (getZ_mem hl)).1, (h _ (getZ_mem (by omega))).2⟩
  · rintro ⟨h1, h2⟩ y hy
    obtain ⟨j, hj, rfl⟩ := List.getElem_of_mem hy
    have e : p[j] = p.getD j 0 := by rw [List.getD, List.getElem?_eq_getElem hj]; rfl
    rw [e]
    have a1 := upL_of hu (Nat.zero_le j) hj
    have a2 := upL_of hu (show j ≤ p.length - 1 by omega) (by omega)
    omega
def RightB (w : World) (l : List Po) (en : Ending) (w' : World) : Prop := ∃ b : Bool, (b = true ↔ rightP l) ∧ en = .returned (.bool b) ∧ Fr No w w'
theorem right_step {l : List Po} {i : Nat} (h : ∀ j, j < i → okPo (l.take j) (l.getD j noPo)) (hx : okPo (l.take i) (l.getD i noPo)) : ∀ j, j < i + 1 → okPo (l.take j) (l.getD j noPo) := fun j hj => by
  by_cases e : j = i
  · rw [e]; exact hx
  · exact h j (by omega)

set_option maxRecDepth 100000 in
set_option maxHeartbeats 4000000 in
theorem right_any (A : Option Addr) (n c B : Nat) (l : List Po) (w : World) (hl : l.length = n) (hn : n ≤ c) (hc : c ≤ maxLen) (hB : B ≤ w.heap.size) (hr : RdPo w B A l) (hi : InI2 l) (hb : ∀ x ∈ l, x.2.length ≤ 140737488351232) :
    Calls Try.prog 40 #[.slice A n c] w (RightB w l) := by
  have HL := hide hl
  have HR := hide hr
  have HI := hide hi
  have HBb := hide hb
  unfold maxLen at hc
  have HF0 := hide (Fr.refl No w)
  clear hl hr hi hb
  go_enter Try.func40, Try.ntmps40
  go_wp2_with (fail)
  go_loopw [9, 3, 4] (fun ix la al wr => ∃ (i all : Nat) (last : Int), i ≤ n ∧ ix = .int .i64 i ∧ la = .int .i64 last ∧ al = .int .i64 all ∧ Hid (last = lastD (l.take i)) ∧ Hid (all = sumP (l.take i)) ∧ all ≤ 1048576 ∧ Hid (∀ j, j < i → okPo (l.take j) (l.getD j noPo)) ∧ Hid (Fr No w wr)) (fun ix _ _ _ => n - (intOf ix).toNat)
  case atStart => exact ⟨0, 0, -1, Nat.zero_le _, rfl, rfl, rfl, hide rfl, hide rfl, Nat.zero_le _, hide (fun j h => by omega), HF0⟩
  case round =>
    obtain ⟨wo, rfl⟩ : ∃ wo : World, wo = wr := ⟨_, rfl⟩
    obtain ⟨i, all, last, hin, rfl, rfl, rfl, HLa, HAl, hal, HOk, HFr⟩ := hrel
    clear HF0
    by_cases hlt : i < n
    · have hil : i < l.length := by rw [HL.out]; exact hlt
      obtain ⟨ad, Ak, ck, rfl, _, k1, k2, h4, h5, hrp⟩ := (HR.out.fr0 HFr.out).at hil
      obtain ⟨x, hx⟩ : ∃ x, l.getD i noPo = x := ⟨_, rfl⟩
      have hxm : x ∈ l := by rw [← hx, List.getD, List.getElem?_eq_getElem hil]; exact List.getElem_mem _
      rw [hx] at k1 k2 h4 hrp
      obtain ⟨d, p⟩ := x
      dsimp only at k1 k2 h4 hrp
      have HX := hide hx
      have hib := HI.out _ hxm
      have hbb := HBb.out _ hxm
      dsimp only at hib hbb
      obtain ⟨m, hm⟩ : ∃ m, p.length = m := ⟨_, rfl⟩
      rw [hm] at k2 h4 hbb
      have HM := hide hm
      have HRp := hide hrp
      have HIb := hide hib
      have i1 : (0 : Int) ≤ (i : Int) := by omega
      have i2 : (i : Int) < (n : Int) := by omega
      clear hrp hib hx hm hxm
      obtain ⟨w1, hw1⟩ : ∃ W, W = wo.alloc (.cells #[.int .i64 d, .slice Ak m ck] 58) := ⟨_, rfl⟩
      obtain ⟨E, hE⟩ : ∃ E, E = wo.heap.size := ⟨_, rfl⟩
      have hq : w1.heap[E]? = some (.cells #[.int .i64 d, .slice Ak m ck] 58 (0, 0)) := by rw [hw1, hE]; exact heap_alloc_new wo _
      have HF1 : Hid (Fr No w w1) := hide (by rw [hw1]; exact HFr.out.alloc _)
      have HRp1 : Hid (Rd w1 B Ak (iz .i64 p)) := hide (by rw [hw1]; exact HRp.out.fr0 ((Fr.refl No wo).alloc _))
      have HW1 := hide hw1
      have HE := hide hE
      have q1 : w1.cell? ⟨E, 0, none⟩ = some (.int .i64 d) := cell_of_row _ _ 0 _ _ _ hq
      have q2 : w1.cell? ⟨E, 1, none⟩ = some (.slice Ak m ck) := cell_of_row _ _ 1 _ _ _ hq
      clear hw1 hE hq HRp HFr
      go_upto_region 5 with (fail)
      rw [← HW1.out, ← HE.out]
      obtain ⟨a2, ha2⟩ : ∃ a2, a2 = all + m := ⟨_, rfl⟩
      have ha3 : (all : Int) + (m : Int) = (a2 : Int) := by omega
      have ha4 : a2 ≤ 140737489399808 := by omega
      have HA2 := hide ha2
      clear ha2 k1 k2
      go_upto_region 6 with (fail)
      obtain ⟨gb, hgb⟩ := said (¬ okPo (l.take i) (d, p))
      have HGb := hide hgb
      clear hgb ha3
      have HNo : Hid (∀ (h : ¬ okPo (l.take i) (d, p)), gb = true) := hide (fun h => HGb.out.2 h)
      have HYes : Hid (∀ (h : okPo (l.take i) (d, p)), gb = false) := hide (fun h => by
        cases hg : gb with
        | false => rfl
        | true => exact absurd h (HGb.out.1 hg))
      refine wp_named fun K hK => ?_
      go_cut [60] from 18 to 60 (fun v wx => v = .bool gb ∧ ∃ nq, wx = w1.drewN nq)
      case first =>
        by_cases c1 : d ≤ last
        · have hg := HNo.out (fun h => by have := h.1; rw [← HLa.out] at this; dsimp only at this; omega)
          have d1 : decide (d ≤ last) = true := decide_eq_true c1
          go_wp2_with (fail)
          go_meet
          exact ⟨by rw [hg], 0, rfl⟩
        have d1 : decide (d ≤ last) = false := decide_eq_false c1
        by_cases c2 : 16384 ≤ d
        · have hg := HNo.out (fun h => by have := h.2.1; dsimp only at this; omega)
          have d2 : decide ((16384 : Int) ≤ d) = true := decide_eq_true c2
          go_wp2_with (fail)
          go_meet
          exact ⟨by rw [hg], 0, rfl⟩
        have d2 : decide ((16384 : Int) ≤ d) = false := decide_eq_false c2
        by_cases c3 : m = 0
        · have hg := HNo.out (fun h => h.2.2.1 (List.length_eq_zero_iff.1 (by rw [HM.out]; exact c3)))
          have d3 : ((m : Int) == 0) = true := by rw [c3]; rfl
          have d3b : (m == 0) = true := by simpa using c3
          clear c3
          go_wp2_with (fail)
          go_meet
          exact ⟨by rw [hg], 0, rfl⟩
        have d3 : ((m : Int) == 0) = false := by simp; omega
        have d3b : (m == 0) = false := by simpa using c3
        by_cases c4 : 1048576 < a2
        · have hg := HNo.out (fun h => by have := h.2.2.2.1; rw [← HAl.out] at this; dsimp only at this; rw [HM.out, ← HA2.out] at this; omega)
          have d4 : decide ((1048576 : Int) < (a2 : Int)) = true := decide_eq_true (by omega)
          have d4b : decide (1048576 < a2) = true := decide_eq_true c4
          clear c3
          go_wp2_with (fail)
          go_meet
          exact ⟨by rw [hg], 0, rfl⟩
        have d4 : decide ((1048576 : Int) < (a2 : Int)) = false := decide_eq_false (by omega)
        have d4b : decide (1048576 < a2) = false := decide_eq_false c4
        have HSo := hide (sorted_any Ak m ck B p w1 HM.out h4 h5 HRp1.out)
        have hm0 : 0 < m := by omega
        have HPne : Hid (p ≠ []) := hide (fun h => by have := HM.out; rw [h] at this; simp at this; omega)
        obtain ⟨ad2, rfl, _, kp1⟩ := cellInt HRp1.out (k := 0) (by rw [HM.out]; exact hm0)
        obtain ⟨ad3, e3, _, kp2⟩ := cellInt HRp1.out (k := m - 1) (by rw [HM.out]; omega)
        injection e3 with e3
        subst e3
        obtain ⟨x0, hx0⟩ : ∃ x0, p.getD 0 0 = x0 := ⟨_, rfl⟩
        obtain ⟨x9, hx9⟩ : ∃ x9, p.getD (m - 1) 0 = x9 := ⟨_, rfl⟩
        rw [hx0] at kp1
        rw [hx9] at kp2
        have kp3 : w1.cell? ad2 = some (.int .i64 x0) := by rw [show ad2.add 0 = ad2 by unfold Addr.add; simp] at kp1; exact kp1
        have HX0 := hide hx0
        have HX9 := hide hx9
        have im1 : IntKind.i64.wrap ((m : Int) - 1) = ((m - 1 : Nat) : Int) := by rw [show (m : Int) - 1 = ((m - 1 : Nat) : Int) by omega]; exact IntWalk.i64_in _ (by omega)
        have im2 : (m : Int) - 1 = ((m - 1 : Nat) : Int) := by omega
        have im3 : ((m - 1 : Nat) : Int) < (m : Int) := by omega
        have im4 : (0 : Int) ≤ ((m - 1 : Nat) : Int) := by omega
        clear hx0 hx9 c1 c2 c3 c4
        obtain ⟨sb, hsb⟩ := said (upL p)
        have HSb : Hid (sb = true ↔ upL p) := hide hsb
        have HSo2 := hide (HSo.out.mono (R' := fun en w' => en = .returned (.bool sb) ∧ ∃ q, w' = w1.drewN q) (fun en w' h => by
          obtain ⟨b, h1, h2, h3⟩ := h
          refine ⟨?_, h3⟩
          rw [h2]
          congr 2
          rw [Bool.eq_iff_iff, h1, hsb]))
        clear hsb HSo
        cases sb with
        | false =>
          have hg := HNo.out (fun h => by have := HSb.out.2 h.2.2.2.2.1; cases this)
          go_wp2_with (go_at_call 65; refine HSo2.out.mono ?_; rintro en w2 ⟨rfl, nq, rfl⟩)
          go_meet
          exact ⟨by rw [hg], nq, rfl⟩
        | true =>
          have HBi := hide (bnd_iff HPne.out (HSb.out.1 rfl))
          rw [HM.out, HX0.out, HX9.out] at HBi
          by_cases c6 : x0 < 0
          · have hg := HNo.out (fun h => by have := (HBi.out.1 h.2.2.2.2.2).1; omega)
            have d6 : decide (x0 < 0) = true := decide_eq_true c6
            clear c6
            go_wp2_with (go_at_call 65; refine HSo2.out.mono ?_; rintro en w2 ⟨rfl, nq, rfl⟩)
            go_meet
            exact ⟨by rw [hg], nq, rfl⟩
          have d6 : decide (x0 < 0) = false := decide_eq_false c6
          by_cases c7 : 1048576 < x9
          · have hg := HNo.out (fun h => by have := (HBi.out.1 h.2.2.2.2.2).2; omega)
            have d7 : decide ((1048576 : Int) < x9) = true := decide_eq_true c7
            clear c6 c7
            go_wp2_with (go_at_call 65; refine HSo2.out.mono ?_; rintro en w2 ⟨rfl, nq, rfl⟩)
            go_meet
            exact ⟨by rw [hg], nq, rfl⟩
          have d7 : decide ((1048576 : Int) < x9) = false := decide_eq_false c7
          have hg := HYes.out ⟨by rw [← HLa.out]; have := of_decide_eq_false d1; dsimp only; omega, by have := of_decide_eq_false d2; dsimp only; omega, HPne.out, by rw [← HAl.out]; dsimp only; rw [HM.out, ← HA2.out]; have := of_decide_eq_false d4b; omega, HSb.out.1 rfl, HBi.out.2 ⟨by omega, by omega⟩⟩
          clear c6 c7
          go_wp2_with (go_at_call 65; refine HSo2.out.mono ?_; rintro en w2 ⟨rfl, nq, rfl⟩)
          go_meet
          exact ⟨by rw [hg], nq, rfl⟩
      case rest =>
        obtain ⟨rfl, nq, rfl⟩ := hcut
        refine hK _ _ ?_
        have HF2 : Hid (Fr No w (w1.drewN nq)) := hide (HF1.out.drewN nq)
        have q3 : (w1.drewN nq).cell? ⟨E, 0, none⟩ = some (.int .i64 d) := q1
        clear hK q1 q2
        generalize w1.drewN nq = w2 at HF2 q3 ⊢
        cases gb with
        | true =>
          have HNr : Hid (¬ rightP l) := hide (fun h => by
            have h1 := h i (by rw [HL.out]; exact hlt)
            rw [HX.out] at h1
            exact HGb.out.1 rfl h1)
          go_wp2_with (fail)
          go_ret
          exact ⟨false, ⟨(fun h => nomatch h), fun h => absurd h HNr.out⟩, rfl, HF2.out⟩
        | false =>
          have HOx : Hid (okPo (l.take i) (d, p)) := hide (Classical.byContradiction (fun h => by have := HGb.out.2 h; cases this))
          have HTk : Hid (l.take (i + 1) = l.take i ++ [(d, p)]) := hide (by rw [take_snocP (by rw [HL.out]; exact hlt), HX.out])
          have hab : a2 ≤ 1048576 := by have := HOx.out.2.2.2.1; rw [← HAl.out] at this; dsimp only at this; rw [HM.out, ← HA2.out] at this; exact this
          go_wp2_with (fail)
          go_roundw
          case rel => exact ⟨i + 1, a2, d, by omega, by go_num, rfl, rfl, hide (by rw [HTk.out, lastD_snoc]), hide (by rw [HTk.out, sumP_snoc, ← HAl.out, HA2.out, HM.out]), hab, hide (right_step HOk.out (by rw [HX.out]; exact HOx.out)), HF2⟩
          case measure => simp [intOf]; omega
    · have d1 : decide ((i : Int) < (n : Int)) = false := decide_eq_false (by omega)
      have hin2 : i = n := by omega
      subst hin2
      clear hlt
      go_wp2_with (fail)
      go_ret
      exact ⟨true, ⟨fun _ j hj => HOk.out j (by rw [← HL.out]; exact hj), fun _ => rfl⟩, rfl, HFr.out⟩
end Go.Proofs.Ythlbfnoahdjdeaa
namespace Go.Proofs.Ythlbfnoahdjdeaa
set_option linter.unusedVariables false
set_option linter.unusedSimpArgs false
open Go.RowKit

/-- the first k positions are right. -/
def upTo (p : List Int) (k : Nat) : Prop := ∀ j, j < k → (0 ≤ p.getD j 0 ∧ p.getD j 0 ≤ 1048576) ∧ (0 < j → p.getD (j - 1) 0 ≤ p.getD j 0)
theorem upTo_end {p : List Int} (h : upTo p p.length) : upL p ∧ ∀ y ∈ p, 0 ≤ y ∧ y ≤ 1048576 := by
  refine ⟨fun k hk => ?_, fun y hy => ?_⟩
  · have := (h (k + 1) hk).2 (by omega)
    rwa [Nat.add_sub_cancel] at this
  · obtain ⟨j, hj, rfl⟩ := List.getElem_of_mem hy
    have e : p[j] = p.getD j 0 := by rw [List.getD, List.getElem?_eq_getElem hj]; rfl
    rw [e]
    exact (h j hj).1
theorem upTo_no {p : List Int} {k : Nat} (hk : k < p.length) (h : ¬ ((0 ≤ p.getD k 0 ∧ p.getD k 0 ≤ 1048576) ∧ (0 < k → p.getD (k - 1) 0 ≤ p.getD k 0))) (h1 : upL p) (h2 : ∀ y ∈ p, 0 ≤ y ∧ y ≤ 1048576) : False :=
  h ⟨h2 _ (getZ_mem hk), fun h0 => upL_of h1 (by omega) hk⟩
theorem upTo_succ {p : List Int} {k : Nat} (h : upTo p k) (hx : (0 ≤ p.getD k 0 ∧ p.getD k 0 ≤ 1048576) ∧ (0 < k → p.getD (k - 1) 0 ≤ p.getD k 0)) : upTo p (k + 1) := fun j hj => by
  by_cases e : j = k
  · rw [e]; exact hx
  · exact h j (by omega)

set_option maxRecDepth 100000 in
set_option maxHeartbeats 4000000 in
theorem refRight_any (A : Option Addr) (n c B : Nat) (l : List Po) (w : World) (hl : l.length = n) (hn : n ≤ c) (hc : c ≤ maxLen) (hB : B ≤ w.heap.size) (hr : RdPo w B A l) (hb : ∀ x ∈ l, x.2.length ≤ 140737488351232) :
    Calls Try.prog 45 #[.slice A n c] w (RightB w l) := by
  have HL := hide hl
  have HR := hide hr
  have HBb := hide hb
  unfold maxLen at hc
  have HF0 := hide (Fr.refl No w)
  clear hl hr hb
  go_enter Try.func45, Try.ntmps45
  go_wp2_with (fail)
  go_loopw [5, 4, 3] (fun ix la al wr => ∃ (i all : Nat) (last : Int), i ≤ n ∧ ix = .int .i64 i ∧ la = .int .i64 last ∧ al = .int .i64 all ∧ Hid (last = lastD (l.take i)) ∧ Hid (all = sumP (l.take i)) ∧ all ≤ 1048576 ∧ Hid (∀ j, j < i → okPo (l.take j) (l.getD j noPo)) ∧ Hid (Fr No w wr)) (fun ix _ _ _ => n - (intOf ix).toNat)
  case atStart => exact ⟨0, 0, -1, Nat.zero_le _, rfl, rfl, rfl, hide rfl, hide rfl, Nat.zero_le _, hide (fun j h => by omega), HF0⟩
  case round =>
    obtain ⟨wo, rfl⟩ : ∃ wo : World, wo = wr := ⟨_, rfl⟩
    obtain ⟨i, all, last, hin, rfl, rfl, rfl, HLa, HAl, hal, HOk, HFr⟩ := hrel
    clear HF0
    by_cases hlt : i < n
    · have hil : i < l.length := by rw [HL.out]; exact hlt
      obtain ⟨ad, Ak, ck, rfl, _, k1, k2, h4, h5, hrp⟩ := HR.out.at hil
      replace k1 := HFr.out.cell k1 (fun h => h)
      replace k2 := HFr.out.cell k2 (fun h => h)
      obtain ⟨x, hx⟩ : ∃ x, l.getD i noPo = x := ⟨_, rfl⟩
      have hxm : x ∈ l := by rw [← hx, List.getD, List.getElem?_eq_getElem hil]; exact List.getElem_mem _
      rw [hx] at k1 k2 h4 hrp
      obtain ⟨d, p⟩ := x
      dsimp only at k1 k2 h4 hrp
      have HX := hide hx
      have hbb := HBb.out _ hxm
      dsimp only at hbb
      obtain ⟨m, hm⟩ : ∃ m, p.length = m := ⟨_, rfl⟩
      rw [hm] at k2 h4 hbb
      have HM := hide hm
      have HRp := hide hrp
      have i1 : (0 : Int) ≤ (i : Int) := by omega
      have i2 : (i : Int) < (n : Int) := by omega
      obtain ⟨r2, hr2⟩ : ∃ r2, r2 = 1048576 - all := ⟨_, rfl⟩
      have hr3 : (1048576 : Int) - (all : Int) = (r2 : Int) := by omega
      have hr4 : IntKind.i64.wrap (r2 : Int) = (r2 : Int) := IntWalk.i64_in _ (by omega)
      have HR2 := hide hr2
      have HNo : Hid (¬ okPo (l.take i) (d, p) → ¬ rightP l) := hide (fun h hR => by
        have h1 := hR i (by rw [HL.out]; exact hlt)
        rw [HX.out] at h1
        exact h h1)
      have hex : Hid (∃ gb : Bool, (gb = true ↔ (d ≤ last ∨ 16384 ≤ d ∨ m = 0 ∨ r2 < m))) := hide (said _)
      obtain ⟨gb, hgb⟩ := hex.out
      have HGb := hide hgb
      clear hrp hx hm hxm hil hex hgb hr2
      go_upto_region 7 with (fail)
      refine wp_named fun K hK => ?_
      go_cut [45] from 19 to 45 (fun v wx => v = .bool gb ∧ wx = wo)
      case first =>
        by_cases c1 : d ≤ last
        · have hg := HGb.out.2 (.inl c1)
          have d1 : decide (d ≤ last) = true := decide_eq_true c1
          go_wp2_with (fail)
          go_meet
          exact ⟨by rw [hg], rfl⟩
        have d1 : decide (d ≤ last) = false := decide_eq_false c1
        by_cases c2 : 16384 ≤ d
        · have hg := HGb.out.2 (.inr (.inl c2))
          have d2 : decide ((16384 : Int) ≤ d) = true := decide_eq_true c2
          go_wp2_with (fail)
          go_meet
          exact ⟨by rw [hg], rfl⟩
        have d2 : decide ((16384 : Int) ≤ d) = false := decide_eq_false c2
        by_cases c3 : m = 0
        · have hg := HGb.out.2 (.inr (.inr (.inl c3)))
          have d3 : ((m : Int) == 0) = true := by rw [c3]; rfl
          have d3b : (m == 0) = true := by simpa using c3
          clear c3
          go_wp2_with (fail)
          go_meet
          exact ⟨by rw [hg], rfl⟩
        have d3 : ((m : Int) == 0) = false := by simp; omega
        have d3b : (m == 0) = false := by simpa using c3
        by_cases c4 : r2 < m
        · have hg := HGb.out.2 (.inr (.inr (.inr c4)))
          have d4 : decide ((r2 : Int) < (m : Int)) = true := decide_eq_true (by omega)
          have d4b : decide (r2 < m) = true := decide_eq_true c4
          clear c3
          go_wp2_with (fail)
          go_meet
          exact ⟨by rw [hg], rfl⟩
        have d4 : decide ((r2 : Int) < (m : Int)) = false := decide_eq_false (by omega)
        have d4b : decide (r2 < m) = false := decide_eq_false c4
        have hg : gb = false := by
          cases h : gb with
          | false => rfl
          | true =>
            rcases HGb.out.1 h with h | h | h | h
            · exact absurd h c1
            · exact absurd h c2
            · exact absurd h c3
            · exact absurd h c4
        clear c3
        go_wp2_with (fail)
        go_meet
        exact ⟨by rw [hg], rfl⟩
      case rest =>
      obtain ⟨rfl, rfl⟩ := hcut
      obtain ⟨wo, rfl⟩ : ∃ W : World, W = wc := ⟨_, rfl⟩
      refine hK _ _ ?_
      clear hK hr3 hr4
      cases gb with
      | true =>
        have HNr : Hid (¬ rightP l) := hide (HNo.out (fun h => by
          have h1 := h.1
          have h2 := h.2.1
          have h3 := h.2.2.1
          have h4 := h.2.2.2.1
          rw [← HLa.out] at h1
          rw [← HAl.out] at h4
          dsimp only at h1 h2 h3 h4
          rw [HM.out] at h4
          have h5 : m ≠ 0 := fun h => h3 (List.length_eq_zero_iff.1 (by rw [HM.out]; exact h))
          have h6 := HR2.out
          rcases HGb.out.1 rfl with h | h | h | h <;> omega))
        go_wp2_with (fail)
        go_ret
        exact ⟨false, ⟨(fun h => nomatch h), fun h => absurd h HNr.out⟩, rfl, HFr.out⟩
      | false =>
        have hno : ¬ (d ≤ last ∨ 16384 ≤ d ∨ m = 0 ∨ r2 < m) := fun h => by have := HGb.out.2 h; cases this
        obtain ⟨a2, ha2⟩ : ∃ a2, a2 = all + m := ⟨_, rfl⟩
        have ha3 : (all : Int) + (m : Int) = (a2 : Int) := by omega
        have hab : a2 ≤ 1048576 := by have := HR2.out; omega
        have hmb : m ≤ 1048576 := by omega
        have HA2 := hide ha2
        have HOk4 : Hid (last < d ∧ d < 16384 ∧ 0 < m) := hide (by omega)
        clear hno ha2 HR2
        go_wp2_with (fail)
        go_loopw [7] (fun kx wr => ∃ k : Nat, k ≤ m ∧ kx = .int .i64 k ∧ Hid (upTo p k) ∧ Hid (Fr No w wr)) (fun kx _ => m - (intOf kx).toNat)
        case atStart => exact ⟨0, Nat.zero_le _, rfl, hide (fun j h => by omega), HFr⟩
        case round =>
          obtain ⟨wz, rfl⟩ : ∃ wz : World, wz = wr := ⟨_, rfl⟩
          obtain ⟨k, hk, rfl, HU, HFz⟩ := hrel
          by_cases hkm : k < m
          · have hrz : Rd wz B Ak (iz .i64 p) := HRp.out.fr0 HFz.out
            obtain ⟨ad2, rfl, _, kp1⟩ := cellInt hrz (k := k) (by rw [HM.out]; exact hkm)
            obtain ⟨ad3, e3, _, kp2⟩ := cellInt hrz (k := k - 1) (by rw [HM.out]; omega)
            injection e3 with e3
            subst e3
            obtain ⟨x, hx⟩ : ∃ x, p.getD k 0 = x := ⟨_, rfl⟩
            obtain ⟨y, hy⟩ : ∃ y, p.getD (k - 1) 0 = y := ⟨_, rfl⟩
            rw [hx] at kp1
            rw [hy] at kp2
            have HXx := hide hx
            have HYy := hide hy
            have i3 : (0 : Int) ≤ (k : Int) := by omega
            have i4 : (k : Int) < (m : Int) := by omega
            obtain ⟨gp, hgp⟩ := said (¬ ((0 ≤ x ∧ x ≤ 1048576) ∧ (0 < k → y ≤ x)))
            have HGp := hide hgp
            clear hrz hx hy hgp
            have hsz : k ≤ 1048576 := by omega
            clear hab hal hbb h4
            go_upto_region 14 with (fail)
            refine wp_named fun K hK => ?_
            go_cut [88] from 61 to 88 (fun v wx => v = .bool gp ∧ ∃ nq, wx = wz.drewN nq)
            case first =>
              by_cases b1 : x < 0
              · have hg := HGp.out.2 (fun h => by omega)
                have e1 : decide (x < 0) = true := decide_eq_true b1
                clear b1
                go_quiet (fail)
                go_wp2
                go_meet
                exact ⟨by rw [hg], nq, rfl⟩
              have e1 : decide (x < 0) = false := decide_eq_false b1
              by_cases b2 : 1048576 < x
              · have hg := HGp.out.2 (fun h => by omega)
                have e2 : decide ((1048576 : Int) < x) = true := decide_eq_true b2
                clear b1 b2
                go_quiet (fail)
                go_wp2
                go_meet
                exact ⟨by rw [hg], nq, rfl⟩
              have e2 : decide ((1048576 : Int) < x) = false := decide_eq_false b2
              by_cases b3 : 0 < k
              · have im1 : IntKind.i64.wrap ((k : Int) - 1) = ((k - 1 : Nat) : Int) := by rw [show (k : Int) - 1 = ((k - 1 : Nat) : Int) by omega]; exact IntWalk.i64_in _ (by omega)
                have im2 : (k : Int) - 1 = ((k - 1 : Nat) : Int) := by omega
                have im3 : ((k - 1 : Nat) : Int) < (m : Int) := by omega
                have im4 : (0 : Int) ≤ ((k - 1 : Nat) : Int) := by omega
                have e3 : decide ((0 : Int) < (k : Int)) = true := decide_eq_true (by omega)
                have e3b : decide (0 < k) = true := decide_eq_true b3
                obtain ⟨g4, hg4⟩ : ∃ g : Bool, decide (x < y) = g := ⟨_, rfl⟩
                have hg : gp = g4 := by
                  rw [Bool.eq_iff_iff, HGp.out, ← hg4, decide_eq_true_iff]
                  constructor
                  · intro h
                    exact Classical.byContradiction (fun q => h ⟨by omega, fun _ => by omega⟩)
                  · rintro h ⟨_, h2⟩
                    have := h2 b3
                    omega
                clear b1 b2 b3
                go_quiet (fail)
                go_wp2
                go_meet
                exact ⟨by rw [hg], nq, rfl⟩
              · have e3 : decide ((0 : Int) < (k : Int)) = false := decide_eq_false (by omega)
                have e3b : decide (0 < k) = false := decide_eq_false b3
                have hg : gp = false := by
                  cases h : gp with
                  | false => rfl
                  | true => exact absurd ⟨by omega, fun q => absurd q b3⟩ (HGp.out.1 h)
                clear b1 b2 b3
                go_quiet (fail)
                go_wp2
                go_meet
                exact ⟨by rw [hg], nq, rfl⟩
            case rest =>
            obtain ⟨rfl, nq, rfl⟩ := hcut
            refine hK _ _ ?_
            have HFn : Hid (Fr No w (wz.drewN nq)) := hide (HFz.out.drewN nq)
            clear hK kp1 kp2
            generalize wz.drewN nq = wy at HFn ⊢
            cases gp with
            | true =>
              have HNr : Hid (¬ rightP l) := hide (HNo.out (fun h => by
                refine upTo_no (k := k) (by rw [HM.out]; exact hkm) (fun q => ?_) h.2.2.2.2.1 h.2.2.2.2.2
                rw [HXx.out, HYy.out] at q
                exact HGp.out.1 rfl q))
              go_wp2_with (fail)
              go_ret
              exact ⟨false, ⟨(fun h => nomatch h), fun h => absurd h HNr.out⟩, rfl, HFn.out⟩
            | false =>
              have HU2 : Hid (upTo p (k + 1)) := hide (upTo_succ HU.out (by
                rw [HXx.out, HYy.out]
                exact Classical.byContradiction (fun q => by have := HGp.out.2 q; cases this)))
              go_wp2_with (fail)
              go_roundw
              case rel => exact ⟨k + 1, by omega, by go_num, HU2, HFn⟩
              case measure => simp [intOf]; omega
          · have hke : k = m := by omega
            subst hke
            have HTk : Hid (l.take (i + 1) = l.take i ++ [(d, p)]) := hide (by rw [take_snocP (by rw [HL.out]; exact hlt), HX.out])
            have HOx : Hid (okPo (l.take i) (d, p)) := hide (by
              have h1 := HU.out
              rw [← HM.out] at h1
              have h2 := upTo_end h1
              have h3 := HOk4.out
              refine ⟨by rw [← HLa.out]; exact h3.1, h3.2.1, fun h => by have := HM.out; dsimp only at h; rw [h] at this; simp at this; omega, by rw [← HAl.out]; dsimp only; rw [HM.out, ← HA2.out]; exact hab, h2.1, h2.2⟩)
            have d5 : decide ((k : Int) < (k : Int)) = false := by simp
            go_wp2_with (fail)
            go_roundw
            case rel => exact ⟨i + 1, a2, d, by omega, by go_num, rfl, rfl, hide (by rw [HTk.out, lastD_snoc]), hide (by rw [HTk.out, sumP_snoc, ← HAl.out, HA2.out, HM.out]), hab, hide (right_step HOk.out (by rw [HX.out]; exact HOx.out)), HFz⟩
            case measure => simp [intOf]; omega
    · have d1 : decide ((i : Int) < (n : Int)) = false := decide_eq_false (by omega)
      have hin2 : i = n := by omega
      subst hin2
      clear hlt
      go_wp2_with (fail)
      go_ret
      exact ⟨true, ⟨fun _ j hj => HOk.out j (by rw [← HL.out]; exact hj), fun _ => rfl⟩, rfl, HFr.out⟩
end Go.Proofs.Ythlbfnoahdjdeaa
namespace Go.Proofs.Ythlbfnoahdjdeaa
set_option linter.unusedVariables false
set_option linter.unusedSimpArgs false
open Go.RowKit

/-- blocks of one type, from B on. -/
def OfT (t : TypeId) (B : Nat) (A : World) : Nat → Prop := fun k => B ≤ k ∧ ∃ cs fz, A.heap[k]? = some (.cells cs t fz)
/-- blocks from B on that hold no cells of another type. -/
def Loose (t : TypeId) (B : Nat) (A : World) : Nat → Prop := fun k => B ≤ k ∧ ∀ cs t' fz, A.heap[k]? = some (.cells cs t' fz) → t' = t
def AbT {β : Type} (t : TypeId) (B : Nat) (J : β → World → Prop) : Prop := ∀ s A A', J s A → Fr (OfT t B A) A A' → J s A'
def AbL {β : Type} (t : TypeId) (B : Nat) (J : β → World → Prop) : Prop := ∀ s A A', J s A → Fr (Loose t B A) A A' → J s A'
theorem OfT.loose {t : TypeId} {B B' : Nat} {A : World} {k : Nat} (h : OfT t B A k) (hB : B' ≤ B) : Loose t B' A k := by
  obtain ⟨h1, cs, fz, h2⟩ := h
  refine ⟨Nat.le_trans hB h1, fun cs' t' fz' h3 => ?_⟩
  rw [h2] at h3
  injection h3 with h3
  injection h3 with _ h3 _
  exact h3.symm
theorem AbL.abT {β : Type} {t : TypeId} {B B' : Nat} {J : β → World → Prop} (h : AbL t B J) (hB : B ≤ B') : AbT t B' J := fun s A A' hj f => h s A A' hj (f.mono (fun _ _ hk => hk.loose hB))
theorem AbL.put {β : Type} {t : TypeId} {B : Nat} {J : β → World → Prop} (h : AbL t B J) {s : β} {W : World} (hj : J s W) {l : Nat} {o o' : Obj} (hl : B ≤ l) (hk : W.heap[l]? = some o) (ho : o.isCells = false) : J s (W.putObj l o') :=
  h s _ _ hj ((Fr.of_grown (grownBy_putObj' W l o')).mono (fun i _ e => by
    have e : i = l := (Option.some.inj e).symm
    subst e
    refine ⟨hl, fun cs t' fz h2 => ?_⟩
    rw [hk] at h2
    injection h2 with h2
    subst h2
    cases ho))
theorem AbL.new {β : Type} {t : TypeId} {B : Nat} {J : β → World → Prop} (h : AbL t B J) {s : β} {W : World} (hj : J s W) (o : Obj) : J s (W.alloc o) := h s _ _ hj ((Fr.refl _ W).alloc o)
theorem OfT.other {t : TypeId} {B : Nat} {A A' : World} (f : Fr (OfT t B A) A A') {k : Nat} {o : Obj} (hk : A.heap[k]? = some o) (ho : o.isCells = false) : A'.heap[k]? = some o :=
  f.blk hk (fun h => by
    obtain ⟨_, cs, fz, h2⟩ := h
    rw [hk] at h2
    injection h2 with h2
    subst h2
    cases ho)

/-- the iterator's contract. -/
def SeqMem {α : Type} (F : Fence) (n : Nat) (P : Program) (g : Nat) (lb : Array Value) (encs : α → Array Value) (t : TypeId) (Kp : World → World → Prop) (Gd : α → World → Prop) (S Sp Pn : List α → Prop) (ch : List PanicEntry) (N : Nat) (w : World) : Prop :=
  ∀ (l : Nat) (J Jx : List α → World → Prop) (W : World), Fr No w W → AbT t W.heap.size J → AbT t W.heap.size Jx →
    (∀ pre x W1, J pre W1 → Gd x W1 → pre.length < N → YieldAt F (n - 1) P l (encs x) W1 fun e W' =>
      (e = .returned (.bool true) ∧ J (pre ++ [x]) W' ∧ Kp W1 W') ∨ (e = .returned (.bool false) ∧ Jx (pre ++ [x]) W')) →
    J [] W →
    CallsIn F n P g (#[.func (.yield l) #[] #[]] ++ lb) W fun e W' => ((∃ v, e = .returned v) ∧ ((∃ xs, S xs ∧ J xs W') ∨ (∃ pre, Sp pre ∧ Jx pre W'))) ∨ (∃ pre, Pn pre ∧ e = .panicked ch ∧ J pre W')

variable {F : Fence} {n : Nat} {P : Program} {w : World}
theorem wpIn_rangeFunc_mem {α : Type} {g : Operand} {ps : Array Tmp} {assign body : Code} {Q : Exit → Act → World → Prop} {a : Act} {w : World}
    (hro : F.round = none) (h1 : 1 ≤ n) {gf : Nat} {lb : Array Value} (hg : a.eval g = .func (.func gf) #[] lb) (hFg : F.fn gf) (eg : ∀ args w, (callFunc gf args).run P w = .ok (.enter gf args) w)
    {encs : α → Array Value} {t : TypeId} {Kp : World → World → Prop} {Gd : α → World → Prop} {S Sp Pn : List α → Prop} {ch : List PanicEntry} {N : Nat} {w0 : World} (hseq : SeqMem F (n - 1) P gf lb encs t Kp Gd S Sp Pn ch N w0)
    (hKt : ∀ {A B C : World}, Kp A B → Kp B C → Kp A C) (hKb : ∀ (W : World) (l : Nat) (o o' : Obj), W.heap[l]? = some o → o.isCells = false → Kp W (W.putObj l o'))
    (hGb : ∀ (x : α) (W : World) (l : Nat) (o o' : Obj), Gd x W → W.heap[l]? = some o → o.isCells = false → Gd x (W.putObj l o'))
    (hb0 : Fr No w0 w) (hps : ∀ x, (encs x).size = ps.size)
    (I : List α → World → Prop) (Ix : Code → List α → World → Prop) (hI : AbL t w.heap.size I) (hIx : ∀ c, AbL t w.heap.size (Ix c)) (h0 : I [] w) (a₁ : α → Act)
    (hassign : ∀ (l : Nat) (x : α) (W : World) (K : Act → World → Prop), K (a₁ x) W →
      assign.wpIn (F.inRound l) (n - 1 - 1) P (Exit.then K (fun _ _ _ => False)) { tmps := (ps.zip (encs x)).foldl (fun t (p, v) => t.setIfInBounds p v) a.tmps, defers := [] } W)
    (hbody : ∀ (l : Nat) (pre : List α) (x : α) (W : World), I pre W → Gd x W → pre.length < N → body.wpIn (F.inRound l) (n - 1 - 1) P (ownPostG w.heap.size Kp I Ix (pre ++ [x]) W) (a₁ x) W)
    (hdone : ∀ (D : Nat) (xs : List α) (W : World), w.heap.size ≤ D → S xs → I xs W → W.heap[D]? = some (.deferred (some [])) → Q .normal { a with defers := { target := .collected D, args := #[] } :: a.defers } W)
    (hstop : ∀ (D : Nat) (c : Code) (pre : List α) (W : World), w.heap.size ≤ D → Sp pre → Ix c pre W → W.heap[D]? = some (.deferred (some [])) → c.wpIn F n P Q { a with defers := { target := .collected D, args := #[] } :: a.defers } W)
    (hpanic : ∀ (D : Nat) (pre : List α) (W : World), w.heap.size ≤ D → Pn pre → I pre W → W.heap[D]? = some (.deferred (some [])) → Q (.panic ch) { a with defers := { target := .collected D, args := #[] } :: a.defers } W) :
    (Code.rangeFunc g ps assign body).wpIn F n P Q a w := by
  refine wpIn_rangeFunc ?_
  intro fn hfn
  rw [hro]
  obtain ⟨rec, hrec⟩ : ∃ rec : LoopState → Option Code → Loop, rec = fun st pe => { state := st, pending := pe, fn, tmps := a.tmps, params := ps, assign, body, defers := w.heap.size } := ⟨_, rfl⟩
  obtain ⟨W1, hW1⟩ : ∃ W1, (w.alloc (.deferred (some []))).alloc (.loop (rec .ready none)) = W1 := ⟨_, rfl⟩
  have hL1 : W1.heap[w.heap.size + 1]? = some (.loop (rec .ready none)) := by
    rw [← hW1]; have := World.alloc_heap_new (w.alloc (.deferred (some []))) (.loop (rec .ready none)); rwa [World.size_alloc] at this
  have hK1 : W1.heap[w.heap.size]? = some (.deferred (some [])) := by
    rw [← hW1]; exact (Below.heap_alloc _ _ _ (by simp)).trans (World.alloc_heap_new w _)
  have hI1 : I [] W1 := by rw [← hW1]; exact hI.new (hI.new h0 _) _
  have hb1 : Fr No w0 W1 := by rw [← hW1]; exact (hb0.alloc _).alloc _
  have hsz1 : w.heap.size ≤ W1.heap.size := by rw [← hW1]; simp; omega
  refine ⟨w.heap.size + 1, [{ target := .collected w.heap.size, args := #[] }], W1, { target := .fn (.func gf) lb, args := #[.func (.yield (w.heap.size + 1)) #[] #[]] }, W1, gf,
    #[.func (.yield (w.heap.size + 1)) #[] #[]] ++ lb, W1, ?_, ?_, ?_, ?_, fun _ => h1, ?_⟩
  · rw [← hW1, hrec]; exact run_enterLoop_outer _ _ _ _ _
  · simp only [resolve, hg]
    simp [go_sem]
  · intro f' hf'; simp [Target.leads] at hf'; subst hf'; exact hFg
  · simp [invoke, go_sem, eg]
  · refine (hseq (w.heap.size + 1)
      (fun pre W => I pre W ∧ W.heap[w.heap.size + 1]? = some (.loop (rec .ready none)) ∧ W.heap[w.heap.size]? = some (.deferred (some [])))
      (fun pre W => ∃ c, Ix c pre W ∧ W.heap[w.heap.size + 1]? = some (.loop (rec .done (some c))) ∧ W.heap[w.heap.size]? = some (.deferred (some [])))
      W1 hb1
      (fun s A A' hs f => ⟨hI.abT hsz1 s A A' hs.1 f, OfT.other f hs.2.1 rfl, OfT.other f hs.2.2 rfl⟩)
      (fun s A A' hs f => by
        obtain ⟨c, hc, hl, hk⟩ := hs
        exact ⟨c, (hIx c).abT hsz1 s A A' hc f, OfT.other f hl rfl, OfT.other f hk rfl⟩)
      ?_ ⟨hI1, hL1, hK1⟩).mono ?_
    · rintro pre x W ⟨hi, hl, hk⟩ hgx hlen
      have hlt : w.heap.size + 1 < W.heap.size := (Array.getElem?_eq_some_iff.1 hl).1
      have hy := run_yield (P := P) (args := encs x) hl (by rw [hrec]; exact hps x)
      rw [hrec] at hy
      refine ⟨fn, _, assign, body, hy, roundIn_of_wpIn hfn (hassign _ x W _ ?_)⟩
      clear hy
      refine ⟨_, run_beginRound hl (by rw [hrec]), ?_⟩
      have hl2 : (W.putObj (w.heap.size + 1) (.loop { rec .ready none with state := .busy })).heap[w.heap.size + 1]? = some (.loop { rec .ready none with state := .busy }) := World.putObj_heap_same hlt
      have hk2 : (W.putObj (w.heap.size + 1) (.loop { rec .ready none with state := .busy })).heap[w.heap.size]? = some (.deferred (some [])) := (World.putObj_heap_other (by omega)).trans hk
      have hw2 : Kp W (W.putObj (w.heap.size + 1) (.loop { rec .ready none with state := .busy })) := hKb _ _ _ _ hl rfl
      refine wpIn_mono (hbody _ pre x _ (hI.put hi (by omega) hl rfl) (hGb _ _ _ _ _ hgx hl rfl) hlen) ?_
      have fin : ∀ (jump : Option Code) (W3 : World), KeepsFrom w.heap.size (W.putObj (w.heap.size + 1) (.loop { rec .ready none with state := .busy })) W3 →
          (Instr.endRound (w.heap.size + 1) jump).run P W3 = .ok (.bool jump.isNone) (W3.putObj (w.heap.size + 1) (.loop (rec (if jump.isNone then .ready else .done) jump))) ∧
          W3.heap[w.heap.size + 1]? = some (.loop { rec .ready none with state := .busy }) ∧
          (W3.putObj (w.heap.size + 1) (.loop (rec (if jump.isNone then .ready else .done) jump))).heap[w.heap.size + 1]? = some (.loop (rec (if jump.isNone then .ready else .done) jump)) ∧
          (W3.putObj (w.heap.size + 1) (.loop (rec (if jump.isNone then .ready else .done) jump))).heap[w.heap.size]? = some (.deferred (some [])) := fun jump W3 hk3 => by
        have hl3 := hk3.same _ _ (by omega) hl2 rfl
        have := run_endRound (P := P) jump hl3
        rw [hrec] at this ⊢
        exact ⟨this, by rw [hrec] at hl3; exact hl3, World.putObj_heap_same (Array.getElem?_eq_some_iff.1 hl3).1, (World.putObj_heap_other (by omega)).trans (hk3.same _ _ (Nat.le_refl _) hk2 rfl)⟩
      rintro e a3 W3 hp
      cases e with
      | normal =>
        obtain ⟨hk3, hkp3, hi3⟩ := hp
        obtain ⟨hr, hl3, hl4, hk4⟩ := fin none W3 hk3
        exact ⟨_, _, hr, .inl ⟨rfl, ⟨hI.put hi3 (by omega) hl3 rfl, hl4, hk4⟩, hKt (hKt hw2 hkp3) (hKb _ _ _ _ hl3 rfl)⟩⟩
      | ret =>
        obtain ⟨hk3, hi3⟩ := hp
        obtain ⟨hr, hl3, hl4, hk4⟩ := fin (some .ret) W3 hk3
        exact ⟨_, _, hr, .inr ⟨rfl, .ret, (hIx _).put hi3 (by omega) hl3 rfl, hl4, hk4⟩⟩
      | exit id =>
        obtain ⟨hk3, hi3⟩ := hp
        obtain ⟨hr, hl3, hl4, hk4⟩ := fin (some (.exit id)) W3 hk3
        exact ⟨_, _, hr, .inr ⟨rfl, .exit id, (hIx _).put hi3 (by omega) hl3 rfl, hl4, hk4⟩⟩
      | goto t =>
        obtain ⟨hk3, hi3⟩ := hp
        obtain ⟨hr, hl3, hl4, hk4⟩ := fin (some (.goto t)) W3 hk3
        exact ⟨_, _, hr, .inr ⟨rfl, .goto t, (hIx _).put hi3 (by omega) hl3 rfl, hl4, hk4⟩⟩
      | panic ch => exact hp.elim
      | outgrown => exact hp.elim
    · rintro e W2 (⟨⟨v, rfl⟩, (⟨xs, hS, hi, hl, hk⟩ | ⟨pre, hSp, c, hi, hl, hk⟩)⟩ | ⟨pre, hPn, rfl, hi, hl, hk⟩)
      · exact ⟨none, _, by have := run_endLoop (P := P) hl (by rw [hrec]; simp); rw [hrec] at this; exact this, hdone _ xs _ (Nat.le_refl _) hS (hI.put hi (by omega) hl rfl) ((World.putObj_heap_other (by omega)).trans hk)⟩
      · exact ⟨some c, _, by have := run_endLoop (P := P) hl (by rw [hrec]; simp); rw [hrec] at this; exact this, hstop _ c pre _ (Nat.le_refl _) hSp ((hIx c).put hi (by omega) hl rfl) ((World.putObj_heap_other (by omega)).trans hk)⟩
      · exact hpanic _ pre _ (Nat.le_refl _) hPn hi hk
end Go.Proofs.Ythlbfnoahdjdeaa
