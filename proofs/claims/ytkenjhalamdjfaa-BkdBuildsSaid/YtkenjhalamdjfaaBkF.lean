/- bkd.form at a leaf, walked. -/
import Derived.Test.YtkenjhalamdjfaaBkQ
import Derived.Test.YtkenjhalamdjfaaBkW
import Derived.Test.YtkenjhalamdjfaaPutU
import Derived.Test.YtkenjhalamdjfaaPutI
import Derived.Test.YtkenjhalamdjfaaMem4
namespace Go.Proofs.Ytkenjhalamdjfaa
set_option linter.unusedVariables false
set_option linter.unusedSimpArgs false
open Go.RowKit

set_option maxRecDepth 100000 in
set_option maxHeartbeats 400000 in
theorem order_any (d : Nat) (w : World) : Calls Try.prog 18 #[.int .i64 (d : Nat)] w (fun en w' => en = .returned (.func (.func 29) #[] #[.pointer (some ⟨w.heap.size, 0, none⟩)]) ∧ w' = w.alloc (.cells #[.int .i64 (d : Nat)] 3)) := by
  go_enter Try.func18, Try.ntmps18
  go_wp2
  go_ret
  exact ⟨rfl, rfl⟩
theorem ArrP.fr {S : Nat → Prop} {w w' : World} {G off : Nat} {ps : List PoL} (h : ArrP w G off ps) (f : Fr S w w') (hS : ¬ S G) : ArrP w' G off ps := by
  refine ⟨fun j u hu => ?_, Nat.lt_of_lt_of_le h.lt f.size⟩
  obtain ⟨h1, h2⟩ := h.cell j u hu
  refine ⟨f.cell h1 hS, ?_⟩
  have hb := f.block G h.lt hS
  unfold World.frozen? at h2 ⊢
  dsimp only at h2 ⊢
  rw [hb]
  exact h2
theorem Apart2.fr {w w' w'' : World} {G lo hi : Nat} {S : Nat → Prop} (h : Apart2 w w' G lo hi) (f : Fr S w' w'') (hS : ¬ S G) (hG : G < w'.heap.size) : Apart2 w w'' G lo hi := fun i hi => by
  have hb := f.block G hG hS
  have h1 := h i hi
  constructor
  · rw [← h1.1]; unfold World.cell?; dsimp only; rw [hb]
  · rw [← h1.2]; unfold World.frozen?; dsimp only; rw [hb]
theorem Apart2.fr0 {w w' : World} {G lo hi : Nat} (f : Fr No w w') (hG : G < w.heap.size) : Apart2 w w' G lo hi := fun i hi => by
  have hb := f.block G hG (fun h => h)
  constructor
  · unfold World.cell?; dsimp only; rw [hb]
  · unfold World.frozen?; dsimp only; rw [hb]
theorem Apart2.tr {w w' w'' : World} {G lo hi : Nat} (h : Apart2 w w' G lo hi) (k : Apart2 w' w'' G lo hi) : Apart2 w w'' G lo hi := fun i hi => ⟨((k i hi).1).trans (h i hi).1, ((k i hi).2).trans (h i hi).2⟩
theorem Apart2.wide {w w' : World} {G lo hi lo' hi' : Nat} (h : Apart2 w w' G lo hi) (h1 : lo' ≤ lo) (h2 : hi ≤ hi') : Apart2 w w' G lo' hi' := fun i hi => h i (by omega)
theorem ArrP.rd {w : World} {G off B dims : Nat} {ps : List PoL} (h : ArrP w G off ps) (hok : ∀ p ∈ ps, OkPt w B dims p) (hB : B ≤ w.heap.size) : RdPo w w.heap.size (some ⟨G, off, none⟩) (ps.map (·.1)) := by
  refine ⟨ps, rfl, fun j u hu => ⟨_, rfl, h.lt, ?_⟩, fun p hp => ⟨(hok p hp).2.1, (hok p hp).2.2.1, (hok p hp).2.2.2.more hB⟩⟩
  rw [Addr.add_lit]
  exact (h.cell j u hu).1
/-- what form is given. -/
structure FormH (w : World) (G off n c B dims : Nat) (ps : List PoL) : Prop where
  len : ps.length = n
  n1 : 1 ≤ n
  n2 : n ≤ 1048576
  cap : n ≤ c
  cap2 : c ≤ maxLen
  ok : ∀ p ∈ ps, OkPt w B dims p
  fit : ∀ p ∈ ps, InI p.1.2 ∧ 0 ≤ p.1.1 ∧ p.1.1 < 16384
  arr : ArrP w G off ps
  low : B ≤ G
  dm : 1 ≤ dims ∧ dims ≤ 4
/-- what form answers. -/
def FormQ (w : World) (G off n dims : Nat) (l : List Pt) (en : Ending) (w' : World) : Prop := (∃ v, en = .returned v ∧ Own w' w.heap.size 5 1 v (treeP dims l).length (by8 (treeP dims l))) ∧ Fr (Is G) w w' ∧ Apart2 w w' G off (off + n * 2)
theorem take_1 {l : List Int} {k : Nat} (h : k < l.length) : l.take (k + 1) = l.take k ++ [l.getD k 0] := by
  rw [List.take_succ_eq_append_getElem h, List.getD, List.getElem?_eq_getElem h]
  rfl
theorem ptsB_snoc (l : List Pt) (p : Pt) : ptsB (l ++ [p]) = ptsB l ++ ptB p := by simp [ptsB]
def zzs (l : List Int) : List UInt8 := (l.map (fun v => enc (zz v))).flatten
theorem zzs_snoc (l : List Int) (x : Int) : zzs (l ++ [x]) = zzs l ++ enc (zz x) := by simp [zzs]
theorem zzs_le : ∀ l : List Int, (zzs l).length ≤ 10 * l.length
  | [] => by simp [zzs]
  | x :: r => by
    have h1 := zzs_le r
    have h2 := (enc_len (zz x)).2
    have e : zzs (x :: r) = enc (zz x) ++ zzs r := by simp [zzs]
    rw [e, List.length_append, List.length_cons]
    omega
set_option maxRecDepth 100000 in
set_option maxHeartbeats 4000000 in
theorem form_leaf (ad : Addr) (G off n c B dims : Nat) (ps : List PoL) (w : World) (had : ad = ⟨G, off, none⟩) (H : FormH w G off n c B dims ps) (h8 : n ≤ 8) :
    Calls Try.prog 10 #[.int .i64 (dims : Nat), .slice (some ad) n c] w (FormQ w G off n dims (ps.map (·.1))) := by
  obtain ⟨i5, hi5, hz5, hsz5, hby5⟩ := info_parts Try.info5
  have HH := hide H
  have HAd := hide had
  have hn1 := H.n1
  have hnc := H.cap
  have hc := H.cap2
  have hd := H.dm
  obtain ⟨w1, hw1⟩ : ∃ x, x = w.alloc (.cells #[.int .i64 ((0 : Nat) : Int)] 3) := ⟨_, rfl⟩
  obtain ⟨bx, hbx⟩ : ∃ x, x = w.heap.size := ⟨_, rfl⟩
  have f1 : Fr No w w1 := by rw [hw1]; exact (Fr.refl No w).alloc _
  have hOr := order_any 0 w
  rw [← hw1, ← hbx] at hOr
  have HOr := hide hOr
  have hcx : w1.cell? ⟨bx, 0, none⟩ = some (.int .i64 ((0 : Nat) : Int)) := by rw [hw1, hbx]; exact cell_of_row _ _ 0 _ _ _ (heap_alloc_new w _)
  have HSo := hide (sortPts_any 0 dims bx G off n c B ps w1 H.len hn1 (by have := H.n2; omega) (by omega) (fun p hp => (H.ok p hp).fr f1 (fun _ _ h => h)) (H.arr.fr f1 (fun h => h)) H.low hcx (by have := H.arr.lt; omega))
  rw [← had] at HSo
  have HF1 := hide f1
  unfold maxLen at hc
  clear hw1 hbx hOr hcx f1 H had
  go_enter Try.func10, Try.ntmps10
  go_wp2_with (fail)
  refine HOr.out.mono ?_
  rintro en wz ⟨rfl, rfl⟩
  go_wp2_with (fail)
  refine HSo.out.mono ?_
  rintro en w2 ⟨rfl, ps2, hperm, hmap, harr, hfr, hap⟩
  obtain ⟨l2, hl2⟩ : ∃ x, x = ps2.map (·.1) := ⟨_, rfl⟩
  have hB2 : ∀ k, k < B → ¬ Is G k := fun k hk e => by have e : k = G := e; have := HH.out.low; omega
  have hfw : Fr (Is G) w w2 := (HF1.out.any (Is G)).trans hfr (fun i hi e => e)
  have hok2 : ∀ p ∈ ps2, OkPt w2 B dims p := fun p hp => (HH.out.ok p (hperm.mem_iff.1 hp)).fr hfw hB2
  have hl2n : l2.length = n := by rw [hl2, List.length_map, hperm.length_eq, HH.out.len]
  have hrd : RdPo w2 w2.heap.size (some ad) l2 := by
    rw [HAd.out, hl2]
    exact harr.rd hok2 (by have := harr.lt; have := HH.out.low; omega)
  have hmem : ∀ p ∈ l2, p.2.length = dims ∧ InI p.2 ∧ 0 ≤ p.1 ∧ p.1 < 16384 := fun p hp => by
    rw [hl2] at hp
    obtain ⟨q, hq, rfl⟩ := List.mem_map.1 hp
    exact ⟨(hok2 q hq).1, HH.out.fit q (hperm.mem_iff.1 hq)⟩
  have HM : Hid (l2 = sortP 0 (ps.map (·.1))) := hide (hl2.trans hmap)
  have HL2 := hide hl2n
  have HRd := hide hrd
  have HMem := hide hmem
  have HF2 := hide hfw
  have HGl := hide harr.lt
  have HAp : Hid (Apart2 w w2 G off (off + n * 2)) := hide ((Apart2.fr0 HF1.out HH.out.arr.lt).tr hap)
  have HPu := hide (fun (u : Nat) (hu : u < 18446744073709551616) W => putU_any none 0 0 0 [] u W rfl (Nat.le_refl _) (Nat.zero_le _) (by omega) (Nat.zero_le _) (fun j u hu => by simp [by8] at hu) hu)
  have HPn := hide (HPu.out n (by omega))
  obtain ⟨en0, hen⟩ : ∃ x, x = (enc n).length := ⟨_, rfl⟩
  have he10 := (enc_len n).2
  rw [← hen] at he10
  have HEn := hide hen
  have b1 : (1 + en0) * 1 ≤ 140737488355328 := by omega
  have b2 : 1 + en0 ≤ maxLen := by unfold maxLen; omega
  clear hl2 hB2 hfw hok2 hl2n hrd hmem hperm hmap harr hfr hap hen HSo HOr
  go_wp2_with (first
    | (go_at_call 12; refine (HPn.out _).mono ?_; rintro en w3 ⟨v3, rfl, hown, hfr⟩; rw [List.nil_append, ← HEn.out] at hown; obtain ⟨A3, c3, rfl, p1, p2, _, p3, _⟩ := hown.form; have HS3 := hide (Src.ofRd (P := Try.prog) (size := 1) w3 Try.underlying28 A3 en0 c3 (by8 (enc n)) (by rw [by8_length, ← HEn.out, Nat.mul_one]) (by omega) p3 (by8_one _)); have HO3 := hide ((own_new8 w2 #[.int .u8 0] 1 [0] 5 rfl rfl (by decide)).fr0 hfr); have HF3 : Hid (Fr No w2 w3) := hide (((Fr.refl No w2).alloc _).tr hfr); have hz3 := HF3.out.size; unfold maxLen at p2; clear hown hfr p3)
    | (at_builtin; refine wpList_append_gen _ rfl (.tmp 21) (.tmp 25) 28 28 rfl w2.heap.size 5 i5 (.int .u8 0) 1 1 Try.underlying28 hi5 hz5 hsz5 hby5 rfl (.slice (some ⟨w2.heap.size, 0, none⟩) 1 1) 1 (by8 [0]) rfl HO3.out _ en0 (by8 (enc n)) rfl HS3.out b1 b2 hz3 ?_; intro v4 w4 hown hfr hat; have HO4 := hide hown; have HF4 : Hid (Fr No w2 w4) := hide (HF3.out.own hfr (fun g hg => .inl (HO3.out.lt g hg).1)); clear hown hfr hat))
  go_loopw [5, 7, 9, 29] (fun vb _ _ i wr => ∃ (k bn : Nat), k ≤ n ∧ i = .int .i64 (k : Nat) ∧ bn ≤ 11 + 50 * k ∧ Hid (Fr No w2 wr) ∧ Hid (bn = ((0 : UInt8) :: (enc n ++ ptsB (l2.take k))).length) ∧ Hid (Own wr w2.heap.size 5 1 vb bn (by8 ((0 : UInt8) :: (enc n ++ ptsB (l2.take k)))))) (fun _ _ _ i _ => n - (intOf i).toNat)
  case atStart => exact ⟨0, 1 + en0, by omega, by go_num, by omega, HF4, hide (by simp [ptsB, HEn.out]; omega), hide (by simpa [ptsB, by8] using HO4.out)⟩
  case round =>
    clear HO4 HF4
    obtain ⟨wo, rfl⟩ : ∃ wo : World, wo = wr := ⟨_, rfl⟩
    obtain ⟨k, bn, hk, rfl, hbn, HFk, HBn, HOk⟩ := hrel
    by_cases hlk : k < n
    · have hk1 : k < l2.length := by rw [HL2.out]; exact hlk
      obtain ⟨ad', A1, c1, e, _, k0', k1', g1, g2, hrk⟩ := HRd.out.at hk1
      cases e
      have k0 := HFk.out.cell k0' (fun h => h)
      have k1 := HFk.out.cell k1' (fun h => h)
      clear k0' k1'
      have hpk := HMem.out _ (getP_mem hk1)
      have htk := take_snocP hk1
      obtain ⟨pk, hpke⟩ : ∃ x, x = l2.getD k noPo := ⟨_, rfl⟩
      rw [← hpke] at k0 k1 g1 hrk hpk htk
      rw [hpk.1] at k1 g1
      obtain ⟨dn, hdn⟩ : ∃ m : Nat, pk.1 = (m : Int) := ⟨pk.1.toNat, by omega⟩
      rw [hdn] at k0 hpk
      have hdn16 : dn < 16384 := by omega
      have HDn := hide hdn
      have HPk := hide hpk
      have HTk := hide htk
      have HRk := hide hrk
      have HPd := hide (HPu.out dn (by omega))
      obtain ⟨ed, hed⟩ : ∃ x, x = (enc dn).length := ⟨_, rfl⟩
      have hed10 := (enc_len dn).2
      rw [← hed] at hed10
      have HEd := hide hed
      have b1 : (bn + ed) * 1 ≤ 140737488355328 := by omega
      have b2 : bn + ed ≤ maxLen := by unfold maxLen; omega
      unfold maxLen at g2
      clear hk1 hpk htk hpke hrk hdn hed
      go_upto_region 7 with (fail)
      obtain ⟨w5, hw5⟩ : ∃ x, x = wo.alloc (.cells #[.int .i64 dn, .slice A1 dims c1] 37) := ⟨_, rfl⟩
      obtain ⟨g, hg⟩ : ∃ x, x = wo.heap.size := ⟨_, rfl⟩
      have hb5 : w5.heap[g]? = some (.cells #[.int .i64 dn, .slice A1 dims c1] 37 (0, 0)) := by rw [hw5, hg]; exact heap_alloc_new wo _
      have f5 : Fr No wo w5 := by rw [hw5]; exact (Fr.refl No wo).alloc _
      have q0 := cell_of_row _ _ 0 _ _ _ hb5
      have HQ1 := hide (cell_of_row _ _ 1 _ _ _ hb5)
      have HB5 := hide hb5
      have HF5 := hide (HFk.out.tr f5)
      have HO5 := hide (HOk.out.fr0 f5)
      rw [← hw5, ← hg]
      clear hw5 hg hb5 f5 k0 k1
      have hz5b := HF5.out.size
      obtain ⟨X, hX⟩ : ∃ X, X = (0 : UInt8) :: (enc n ++ ptsB (l2.take k)) := ⟨_, rfl⟩
      rw [← hX] at HBn HO5
      have HX := hide hX
      obtain ⟨at_, hat_⟩ : ∃ x, x = pk.2 := ⟨_, rfl⟩
      rw [← hat_] at HRk HPk
      have HAt := hide hat_
      clear hX hat_
      go_wp2_with (first
        | (go_at_call 12; refine (HPd.out _).mono ?_; rintro en w6 ⟨v6, rfl, hown, hfr⟩; rw [List.nil_append, ← HEd.out] at hown; obtain ⟨A6, c6, rfl, p1, p2, _, p3, _⟩ := hown.form; have HS6 := hide (Src.ofRd (P := Try.prog) (size := 1) w6 Try.underlying28 A6 ed c6 (by8 (enc dn)) (by rw [by8_length, ← HEd.out, Nat.mul_one]) (by omega) p3 (by8_one _)); have HO6 := hide (HO5.out.fr0 hfr); have HF6 : Hid (Fr No w2 w6) := hide (HF5.out.tr hfr); have hz6 := HF6.out.size; have HQ6 := hide (hfr.cell HQ1.out (fun h => h)); have HB6 := hide (hfr.blk HB5.out (fun h => h)); unfold maxLen at p2; clear hown hfr p3 q0)
        | (at_builtin; refine wpList_append_gen _ rfl (.tmp 33) (.tmp 37) 28 28 rfl w2.heap.size 5 i5 (.int .u8 0) 1 1 Try.underlying28 hi5 hz5 hsz5 hby5 rfl u5 bn (by8 X) rfl HO6.out _ ed (by8 (enc dn)) rfl HS6.out b1 b2 hz6 ?_; intro v7 w7 hown hfr hat; have HO7 := hide hown; have HF7 : Hid (Fr No w2 w7) := hide (HF6.out.own hfr (fun g hg => .inl (HO6.out.lt g hg).1)); have q7 := hfr.cell (p := ⟨g, 1, none⟩) HQ6.out (off_own HO6.out (by decide) _ _ _ HB6.out); clear hown hfr hat))
      go_loopw [5, 9, 42] (fun vb _ i wr => ∃ (q bm : Nat), q ≤ dims ∧ i = .int .i64 (q : Nat) ∧ bm ≤ bn + ed + 10 * q ∧ Hid (Fr No w2 wr) ∧ Hid (bm = (X ++ enc dn ++ zzs (at_.take q)).length) ∧ Hid (Own wr w2.heap.size 5 1 vb bm (by8 (X ++ enc dn ++ zzs (at_.take q))))) (fun _ _ i _ => dims - (intOf i).toNat)
      case atStart => exact ⟨0, bn + ed, by omega, by go_num, by omega, HF7, hide (by rw [List.take_zero]; simp [zzs, ← HBn.out, HEd.out]), hide (by rw [List.take_zero]; have h := HO7.out; rw [← by8_append] at h; simpa [zzs] using h)⟩
      case round =>
        clear HO7 HF7 q7
        obtain ⟨wx, rfl⟩ : ∃ wo : World, wo = wr := ⟨_, rfl⟩
        obtain ⟨q, bm, hq, rfl, hbm, HFq, HBm, HOq⟩ := hrel
        by_cases hlq : q < dims
        · have hq1 : q < at_.length := by rw [HPk.out.1]; exact hlq
          obtain ⟨ad1, rfl, _, hx2⟩ := (HRk.out.fr0 HFq.out).intAt hq1
          have hxI := HPk.out.2.1 (at_.getD q 0) (by rw [List.getD, List.getElem?_eq_getElem hq1]; exact List.getElem_mem hq1)
          have htq : at_.take (q + 1) = at_.take q ++ [at_.getD q 0] := take_1 hq1
          obtain ⟨x, hxe⟩ : ∃ x, x = at_.getD q 0 := ⟨_, rfl⟩
          rw [← hxe] at hx2 hxI htq
          have HTq := hide htq
          have HPi := hide (fun W => putI_any none 0 0 0 [] x W rfl (Nat.le_refl _) (Nat.zero_le _) (by omega) (Nat.zero_le _) (fun j u hu => by simp [by8] at hu) hxI.1 hxI.2)
          obtain ⟨ez, hez⟩ : ∃ y, y = (enc (zz x)).length := ⟨_, rfl⟩
          have hez10 := (enc_len (zz x)).2
          rw [← hez] at hez10
          have HEz := hide hez
          have b1 : (bm + ez) * 1 ≤ 140737488355328 := by omega
          have b2 : bm + ez ≤ maxLen := by unfold maxLen; omega
          obtain ⟨Y, hY⟩ : ∃ Y, Y = X ++ enc dn ++ zzs (at_.take q) := ⟨_, rfl⟩
          rw [← hY] at HBm HOq
          have HY := hide hY
          clear hq1 htq hxe hez hY
          go_wp2_with (first
            | (go_at_call 19; refine (HPi.out _).mono ?_; rintro en w8 ⟨v8, rfl, hown, hfr⟩; rw [List.nil_append, ← HEz.out] at hown; obtain ⟨A8, c8, rfl, p1, p2, _, p3, _⟩ := hown.form; have HS8 := hide (Src.ofRd (P := Try.prog) (size := 1) w8 Try.underlying28 A8 ez c8 (by8 (enc (zz x))) (by rw [by8_length, ← HEz.out, Nat.mul_one]) (by omega) p3 (by8_one _)); have HO8 := hide (HOq.out.fr0 hfr); have HF8 : Hid (Fr No w2 w8) := hide (HFq.out.tr hfr); have hz8 := HF8.out.size; unfold maxLen at p2; clear hown hfr p3)
            | (at_builtin; refine wpList_append_gen _ rfl (.tmp 46) (.tmp 48) 28 28 rfl w2.heap.size 5 i5 (.int .u8 0) 1 1 Try.underlying28 hi5 hz5 hsz5 hby5 rfl u5 bm (by8 Y) rfl HO8.out _ ez (by8 (enc (zz x))) rfl HS8.out b1 b2 hz8 ?_; intro v9 w9 hown hfr hat; have HO9 := hide hown; have HF9 : Hid (Fr No w2 w9) := hide (HF8.out.own hfr (fun g hg => .inl (HO8.out.lt g hg).1)); clear hown hfr hat))
          go_roundw
          case rel =>
            have hY1 : X ++ enc dn ++ zzs (at_.take (q + 1)) = Y ++ enc (zz x) := by rw [HTq.out, zzs_snoc, HY.out, List.append_assoc (X ++ enc dn)]
            refine ⟨q + 1, bm + ez, by omega, by go_num, by omega, HF9, hide ?_, hide ?_⟩
            · rw [hY1, List.length_append, ← HBm.out, ← HEz.out]
            · rw [hY1, by8_append]; exact HO9.out
          case measure => simp [intOf]; omega
        · obtain rfl : q = dims := by omega
          have hall : at_.take q = at_ := List.take_of_length_le (by rw [HPk.out.1]; exact Nat.le_refl _)
          rw [hall] at HBm HOq
          have hE : X ++ enc dn ++ zzs at_ = (0 : UInt8) :: (enc n ++ ptsB (l2.take (k + 1))) := by
            rw [HTk.out, ptsB_snoc, HX.out, ptB, HDn.out, Int.toNat_natCast, HAt.out]
            simp [zzs]
          rw [hE] at HBm HOq
          clear hall hE hlq
          go_wp2_with (fail)
          go_roundw
          case rel => exact ⟨k + 1, bm, by omega, by go_num, by omega, HFq, HBm, HOq⟩
          case measure => simp [intOf]; omega
    · obtain rfl : k = n := by omega
      have hall : l2.take k = l2 := List.take_of_length_le (by rw [HL2.out]; exact Nat.le_refl _)
      rw [hall] at HBn HOk
      have HT : Hid (treeP dims (ps.map (·.1)) = (0 : UInt8) :: (enc k ++ ptsB l2)) := hide (by rw [treeP_leaf (by rw [List.length_map, HH.out.len]; exact h8), List.length_map, HH.out.len, HM.out])
      clear hall hlk
      go_wp2_with (fail)
      go_ret
      refine ⟨⟨u5, rfl, ?_⟩, ?_, ?_⟩
      · rw [HT.out, ← HBn.out]; exact HOk.out.lower HF2.out.size
      · exact HF2.out.trans HFk.out (fun i hi e => e.elim)
      · exact HAp.out.fr HFk.out (fun h => h) HGl.out
end Go.Proofs.Ytkenjhalamdjfaa
