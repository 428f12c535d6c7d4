/- The document's tree, walked. -/
import Derived.Test.YtkenjhalamdjfaaBkT
import Derived.Test.YtkenjhalamdjfaaBkB
import Derived.Test.YtkenjhalamdjfaaTurn
namespace Go.Proofs.Ytkenjhalamdjfaa
set_option linter.unusedVariables false
set_option linter.unusedSimpArgs false
open Go.RowKit

/-- points that may stand in a tree. -/
def OkL (dims : Nat) (l : List Po) : Prop := ∀ p ∈ l, p.2.length = dims ∧ InI p.2 ∧ 0 ≤ p.1 ∧ p.1 < 16384
set_option maxRecDepth 100000 in
set_option maxHeartbeats 4000000 in
theorem tree_leaf (dims : Nat) (hdm : 1 ≤ dims ∧ dims ≤ 4) (n : Nat) (A : Option Addr) (c B : Nat) (l : List Po) (w : World) (hl : l.length = n) (h8 : n ≤ 8) (hn : n ≤ c) (hc : c ≤ maxLen) (hB : B ≤ w.heap.size) (hd : OkL dims l) (hr : RdPo w B A l) :
    Calls Try.prog 15 #[.int .i64 (dims : Nat), .slice A n c] w (GivesB w (treeP dims l)) := by
  obtain ⟨i5, hi5, hz5, hsz5, hby5⟩ := info_parts Try.info5
  have HT : Hid (treeP dims l = (0 : UInt8) :: (enc n ++ ptsB (sortP 0 l))) := hide (by rw [treeP_leaf (by rw [hl]; exact h8), hl])
  have HSo := hide (fun W (f : Fr No w W) => sorted_any 0 dims (by omega) n A c B l W hl (by omega) hn hc (Nat.le_trans hB f.size) (fun p hp => (hd p hp).1) (hr.fr0 f))
  have HD : Hid (OkL dims (sortP 0 l)) := hide (fun p hp => hd p (sortP_mem.1 hp))
  have HSl : Hid ((sortP 0 l).length = n) := hide (by rw [sortP_len, hl])
  have HUu := hide (fun (u : Nat) (hu : u < 18446744073709551616) W => refUint_any u W hu)
  have HUn := hide (HUu.out n (by omega))
  obtain ⟨en0, hen⟩ : ∃ x, x = (enc n).length := ⟨_, rfl⟩
  have he10 := (enc_len n).2
  rw [← hen] at he10
  have HEn := hide hen
  have HO0 := hide (own_new8 w #[.int .u8 0] 1 [0] 5 rfl rfl (by decide))
  have HF0 : Hid (Fr No w (w.alloc (.cells #[.int .u8 0] 5))) := hide ((Fr.refl No w).alloc _)
  have b1 : (1 + en0) * 1 ≤ 140737488355328 := by omega
  have b2 : 1 + en0 ≤ maxLen := by unfold maxLen; omega
  have HBw := hide hB
  unfold maxLen at hc
  clear hl hd hr hen hB
  go_enter Try.func15, Try.ntmps15
  go_wp2_with (first
    | (go_at_call 14; refine (HUn.out _).mono ?_; rintro en w2 ⟨vu, rfl, hown, hfr⟩; rw [← HEn.out] at hown; obtain ⟨Au, cu, rfl, p1, p2, _, p3, _⟩ := hown.form; have HS2 := hide (Src.ofRd (P := Try.prog) (size := 1) w2 Try.underlying28 Au en0 cu (by8 (enc n)) (by rw [by8_length, ← HEn.out, Nat.mul_one]) (by omega) p3 (by8_one _)); have HO2 := hide (HO0.out.fr0 hfr); have HF2 : Hid (Fr No w w2) := hide (HF0.out.tr hfr); have hz2 : w.heap.size ≤ w2.heap.size := HF2.out.size; unfold maxLen at p2; clear hown hfr p3)
    | (at_builtin; refine wpList_append_gen _ rfl (.tmp 19) (.tmp 23) 28 28 rfl w.heap.size 5 i5 (.int .u8 0) 1 1 Try.underlying28 hi5 hz5 hsz5 hby5 rfl (.slice (some ⟨w.heap.size, 0, none⟩) 1 1) 1 (by8 [0]) rfl HO2.out _ en0 (by8 (enc n)) rfl HS2.out b1 b2 hz2 ?_; intro v3 w3 hown hfr hat; have HO3 := hide hown; have HF3 : Hid (Fr No w w3) := hide (HF2.out.own hfr (fun g hg => .inl ( (HO2.out.lt g hg).1))); clear hown hfr hat))
  refine (HSo.out w3 HF3.out).mono ?_
  rintro en w4 ⟨A4, c4, rfl, x1, x2, hrd, hf⟩
  obtain ⟨s, hs⟩ : ∃ s, s = sortP 0 l := ⟨_, rfl⟩
  rw [← hs] at hrd HD HSl HT
  have HR4 := hide hrd
  have HF4 := hide (HF3.out.tr hf)
  have HO4 := hide (HO3.out.fr0 hf)
  unfold maxLen at x2
  clear hs hrd hf HSo HO3 HF3
  go_wp2_with (fail)
  go_loopw [5, 7, 8] (fun vb i _ wr => ∃ (k bn : Nat), k ≤ n ∧ i = .int .i64 (k : Nat) ∧ bn ≤ 11 + 50 * k ∧ Hid (Fr No w wr) ∧ Hid (RdS wr B A4 s) ∧ Hid (bn = ((0 : UInt8) :: (enc n ++ ptsB (s.take k))).length) ∧ Hid (Own wr w.heap.size 5 1 vb bn (by8 ((0 : UInt8) :: (enc n ++ ptsB (s.take k)))))) (fun _ i _ _ => n - (intOf i).toNat)
  case atStart => exact ⟨0, 1 + en0, by omega, by go_num, by omega, HF4, HR4, hide (by simp [ptsB, HEn.out]; omega), hide (by simpa [ptsB, by8] using HO4.out)⟩
  case round =>
    clear HO4 HF4 HR4
    obtain ⟨wo, rfl⟩ : ∃ wo : World, wo = wr := ⟨_, rfl⟩
    obtain ⟨k, bn, hk, rfl, hbn, HFk, HRk, HBn, HOk⟩ := hrel
    by_cases hlk : k < n
    · have hk1 : k < s.length := by rw [HSl.out]; exact hlk
      obtain ⟨ad, A1, c1, rfl, _, k0', k1', g1, g2, hrk⟩ := HRk.out.at hk1
      have hpk := HD.out _ (getP_mem hk1)
      have htk := take_snocP hk1
      obtain ⟨pk, hpke⟩ : ∃ x, x = s.getD k noPo := ⟨_, rfl⟩
      rw [← hpke] at k0' k1' g1 hrk hpk htk
      rw [hpk.1] at k1' g1
      obtain ⟨dn, hdn⟩ : ∃ m : Nat, pk.1 = (m : Int) := ⟨pk.1.toNat, by omega⟩
      rw [hdn] at k0' hpk
      have k0 := k0'
      have hdn16 : dn < 16384 := by omega
      have HDn := hide hdn
      have HPk := hide hpk
      have HTk := hide htk
      have HUd := hide (HUu.out dn (by omega))
      obtain ⟨ed, hed⟩ : ∃ x, x = (enc dn).length := ⟨_, rfl⟩
      have hed10 := (enc_len dn).2
      rw [← hed] at hed10
      have HEd := hide hed
      obtain ⟨X, hX⟩ : ∃ X, X = (0 : UInt8) :: (enc n ++ ptsB (s.take k)) := ⟨_, rfl⟩
      rw [← hX] at HBn HOk
      have HX := hide hX
      obtain ⟨at_, hat_⟩ : ∃ x, x = pk.2 := ⟨_, rfl⟩
      rw [← hat_] at HPk
      have HAt := hide hat_
      have b1 : (bn + ed) * 1 ≤ 140737488355328 := by omega
      have b2 : bn + ed ≤ maxLen := by unfold maxLen; omega
      unfold maxLen at g2
      have HK1 := hide hk1
      have HPe := hide hpke
      clear hk1 hpk htk hpke hrk hdn hed hX hat_ k0' k1'
      go_wp2_with (first
        | (go_at_call 14; refine (HUd.out _).mono ?_; rintro en w6 ⟨vu, rfl, hown, hfr⟩; rw [← HEd.out] at hown; obtain ⟨Au, cu, rfl, p1, p2, _, p3, _⟩ := hown.form; have HS6 := hide (Src.ofRd (P := Try.prog) (size := 1) w6 Try.underlying28 Au ed cu (by8 (enc dn)) (by rw [by8_length, ← HEd.out, Nat.mul_one]) (by omega) p3 (by8_one _)); have HO6 := hide (HOk.out.fr0 hfr); have HF6 : Hid (Fr No w w6) := hide (HFk.out.tr hfr); have hz6 : w.heap.size ≤ w6.heap.size := HF6.out.size; unfold maxLen at p2; have HR6 := hide (HRk.out.fr0 hfr); clear hown hfr p3)
        | (at_builtin; refine wpList_append_gen _ rfl (.tmp 33) (.tmp 40) 28 28 rfl w.heap.size 5 i5 (.int .u8 0) 1 1 Try.underlying28 hi5 hz5 hsz5 hby5 rfl u5 bn (by8 X) rfl HO6.out _ ed (by8 (enc dn)) rfl HS6.out b1 b2 hz6 ?_; intro v7 w7 hown hfr hat; have HO7 := hide hown; have HF7 : Hid (Fr No w w7) := hide (HF6.out.own hfr (fun g hg => .inl ( (HO6.out.lt g hg).1))); have HR7 := hide (HR6.out.off hfr (fun k hk e => by have := (HO6.out.lt k e).1; have := HBw.out; omega) (off_own HO6.out (by decide))); clear hown hfr hat))
      go_loopw [5, 8] (fun vb i wr => ∃ (q bm : Nat), q ≤ dims ∧ i = .int .i64 (q : Nat) ∧ bm ≤ bn + ed + 10 * q ∧ Hid (Fr No w wr) ∧ Hid (RdS wr B (some ad) s) ∧ Hid (bm = (X ++ enc dn ++ zzs (at_.take q)).length) ∧ Hid (Own wr w.heap.size 5 1 vb bm (by8 (X ++ enc dn ++ zzs (at_.take q))))) (fun _ i _ => dims - (intOf i).toNat)
      case atStart => exact ⟨0, bn + ed, by omega, by go_num, by omega, HF7, HR7, hide (by rw [List.take_zero]; simp [zzs, ← HBn.out, HEd.out]), hide (by rw [List.take_zero]; have h := HO7.out; rw [← by8_append] at h; simpa [zzs] using h)⟩
      case round =>
        clear HO7 HF7 HR7
        obtain ⟨wx, rfl⟩ : ∃ wo : World, wo = wr := ⟨_, rfl⟩
        obtain ⟨q, bm, hq, rfl, hbm, HFq, HRq, HBm, HOq⟩ := hrel
        by_cases hlq : q < dims
        · have hq1 : q < at_.length := by rw [HPk.out.1]; exact hlq
          obtain ⟨ad', A1', c1', eA, _, _, k1, g1, g2, hrk⟩ := HRq.out.at HK1.out
          cases eA
          rw [← HPe.out, ← HAt.out, HPk.out.1] at k1 g1
          rw [← HPe.out, ← HAt.out] at hrk
          obtain ⟨ad1, rfl, _, hx⟩ := cellInt hrk hq1
          unfold maxLen at g2
          have hxI := HPk.out.2.1 (at_.getD q 0) (by rw [List.getD, List.getElem?_eq_getElem hq1]; exact List.getElem_mem hq1)
          have htq : at_.take (q + 1) = at_.take q ++ [at_.getD q 0] := take_1 hq1
          obtain ⟨x, hxe⟩ : ∃ x, x = at_.getD q 0 := ⟨_, rfl⟩
          rw [← hxe] at hx hxI htq
          have HTq := hide htq
          have HTu := hide (fun W => turned_any x W hxI.1 hxI.2)
          obtain ⟨z, hz⟩ : ∃ z, z = zz x := ⟨_, rfl⟩
          have hzl : z < 18446744073709551616 := by rw [hz]; exact zz_lt hxI.1 hxI.2
          rw [← hz] at HTu
          have HZ := hide hz
          have HUz := hide (HUu.out z hzl)
          obtain ⟨ez, hez⟩ : ∃ y, y = (enc z).length := ⟨_, rfl⟩
          have hez10 := (enc_len z).2
          rw [← hez] at hez10
          have HEz := hide hez
          have b1 : (bm + ez) * 1 ≤ 140737488355328 := by omega
          have b2 : bm + ez ≤ maxLen := by unfold maxLen; omega
          obtain ⟨Y, hY⟩ : ∃ Y, Y = X ++ enc dn ++ zzs (at_.take q) := ⟨_, rfl⟩
          rw [← hY] at HBm HOq
          have HY := hide hY
          clear hq1 htq hxe hez hY hz hzl hxI hrk
          go_wp2_with (first
            | (go_at_call 24; refine (HTu.out _).mono ?_; rintro en wz ⟨rfl, rfl⟩)
            | (go_at_call 14; refine (HUz.out _).mono ?_; rintro en w8 ⟨vu, rfl, hown, hfr⟩; rw [← HEz.out] at hown; obtain ⟨Au, cu, rfl, p1, p2, _, p3, _⟩ := hown.form; have HS8 := hide (Src.ofRd (P := Try.prog) (size := 1) w8 Try.underlying28 Au ez cu (by8 (enc z)) (by rw [by8_length, ← HEz.out, Nat.mul_one]) (by omega) p3 (by8_one _)); have HO8 := hide (HOq.out.fr0 hfr); have HF8 : Hid (Fr No w w8) := hide (HFq.out.tr hfr); have hz8 : w.heap.size ≤ w8.heap.size := HF8.out.size; unfold maxLen at p2; have HR8 := hide (HRq.out.fr0 hfr); clear hown hfr p3)
            | (at_builtin; refine wpList_append_gen _ rfl (.tmp 47) (.tmp 57) 28 28 rfl w.heap.size 5 i5 (.int .u8 0) 1 1 Try.underlying28 hi5 hz5 hsz5 hby5 rfl u5 bm (by8 Y) rfl HO8.out _ ez (by8 (enc z)) rfl HS8.out b1 b2 hz8 ?_; intro v9 w9 hown hfr hat; have HO9 := hide hown; have HF9 : Hid (Fr No w w9) := hide (HF8.out.own hfr (fun g hg => .inl ( (HO8.out.lt g hg).1))); have HR9 := hide (HR8.out.off hfr (fun k hk e => by have := (HO8.out.lt k e).1; have := HBw.out; omega) (off_own HO8.out (by decide))); clear hown hfr hat))
          go_roundw
          case rel =>
            have hY1 : X ++ enc dn ++ zzs (at_.take (q + 1)) = Y ++ enc z := by rw [HTq.out, zzs_snoc, HY.out, HZ.out, List.append_assoc (X ++ enc dn)]
            refine ⟨q + 1, bm + ez, by omega, by go_num, by omega, HF9, HR9, hide ?_, hide ?_⟩
            · rw [hY1, List.length_append, ← HBm.out, ← HEz.out]
            · rw [hY1, by8_append]; exact HO9.out
          case measure => simp [intOf]; omega
        · obtain rfl : q = dims := by omega
          have hall : at_.take q = at_ := List.take_of_length_le (by rw [HPk.out.1]; exact Nat.le_refl _)
          rw [hall] at HBm HOq
          have hE : X ++ enc dn ++ zzs at_ = (0 : UInt8) :: (enc n ++ ptsB (s.take (k + 1))) := by
            rw [HTk.out, ptsB_snoc, HX.out, ptB, HDn.out, Int.toNat_natCast, HAt.out]
            simp [zzs]
          rw [hE] at HBm HOq
          clear hall hE hlq
          go_wp2_with (fail)
          go_roundw
          case rel => exact ⟨k + 1, bm, by omega, by go_num, by omega, HFq, HRq, HBm, HOq⟩
          case measure => simp [intOf]; omega
    · obtain rfl : k = n := by omega
      have hall : s.take k = s := List.take_of_length_le (by rw [HSl.out]; exact Nat.le_refl _)
      rw [hall] at HBn HOk
      clear hall hlk
      go_wp2_with (fail)
      go_ret
      refine ⟨u5, rfl, ?_, HFk.out⟩
      rw [HT.out, ← HBn.out]; exact HOk.out
end Go.Proofs.Ytkenjhalamdjfaa
