/- bkd.form, walked. -/
import Derived.Test.YtkenjhalamdjfaaBkF
import Derived.Test.YtkenjhalamdjfaaStepA
import Derived.Test.YtkenjhalamdjfaaWpN
import Derived.Deep.RegionLaw
namespace Go.Proofs.Ytkenjhalamdjfaa
set_option linter.unusedVariables false
set_option linter.unusedSimpArgs false
open Go.RowKit

theorem pFlat_take (ps : List PoL) (k : Nat) : pFlat (ps.take k) = (pFlat ps).take (k * 2) := by
  induction ps generalizing k with
  | nil => simp [pFlat]
  | cons p r ih =>
    cases k with
    | zero => simp [pFlat]
    | succ k =>
      have e : pFlat (p :: r) = pRow p ++ pFlat r := rfl
      have e2 : pFlat (p :: r.take k) = pRow p ++ pFlat (r.take k) := rfl
      rw [List.take_succ_cons, e, e2, ih, show (k + 1) * 2 = (pRow p).length + k * 2 by simp [pRow]; omega, List.take_length_add_append]
theorem pFlat_drop (ps : List PoL) (k : Nat) : pFlat (ps.drop k) = (pFlat ps).drop (k * 2) := by
  induction ps generalizing k with
  | nil => simp [pFlat]
  | cons p r ih =>
    cases k with
    | zero => simp
    | succ k =>
      have e : pFlat (p :: r) = pRow p ++ pFlat r := rfl
      rw [List.drop_succ_cons, e, ih, show (k + 1) * 2 = (pRow p).length + k * 2 by simp [pRow]; omega, List.drop_length_add_append]
theorem ArrP.take {w : World} {G off : Nat} {ps : List PoL} (h : ArrP w G off ps) (k : Nat) : ArrP w G off (ps.take k) := by
  refine ⟨fun j u hu => ?_, h.lt⟩
  rw [pFlat_take, List.getElem?_take] at hu
  split at hu
  · exact h.cell j u hu
  · cases hu
theorem ArrP.drop {w : World} {G off : Nat} {ps : List PoL} (h : ArrP w G off ps) (k : Nat) : ArrP w G (off + k * 2) (ps.drop k) := by
  refine ⟨fun j u hu => ?_, h.lt⟩
  rw [pFlat_drop, List.getElem?_drop] at hu
  have h1 := h.cell _ u hu
  rw [Nat.add_assoc]
  exact h1
/-- points outside a part that changes. -/
theorem ArrP.apart {w w' : World} {G off lo hi : Nat} {ps : List PoL} (h : ArrP w G off ps) (ha : Apart2 w w' G lo hi) (hs : w.heap.size ≤ w'.heap.size) (hd : hi ≤ off ∨ off + ps.length * 2 ≤ lo) : ArrP w' G off ps := by
  refine ⟨fun j u hu => ?_, Nat.lt_of_lt_of_le h.lt hs⟩
  have hj := (List.getElem?_eq_some_iff.1 hu).1
  rw [pFlat_len] at hj
  have h1 := h.cell j u hu
  have h2 := ha (off + j) (by omega)
  rw [h2.1, h2.2]
  exact h1
theorem FormH.fr {S : Nat → Prop} {w w' : World} {G off n c B dims : Nat} {ps : List PoL} (h : FormH w G off n c B dims ps) (f : Fr S w w') (hG : ¬ S G) (hB : ∀ k, k < B → ¬ S k) : FormH w' G off n c B dims ps :=
  ⟨h.len, h.n1, h.n2, h.cap, h.cap2, fun p hp => (h.ok p hp).fr f hB, h.fit, h.arr.fr f hG, h.low, h.dm⟩
theorem add_lit2 (G off k : Nat) : (⟨G, off, none⟩ : Addr).add (k * 2) = ⟨G, off + k * 2, none⟩ := Addr.add_lit _ _ _
set_option maxRecDepth 100000 in
set_option maxHeartbeats 8000000 in
theorem form_any (dims B : Nat) : ∀ (n : Nat) (ad : Addr) (G off c : Nat) (ps : List PoL) (w : World), ad = ⟨G, off, none⟩ → FormH w G off n c B dims ps →
    Calls Try.prog 10 #[.int .i64 (dims : Nat), .slice (some ad) n c] w (FormQ w G off n dims (ps.map (·.1))) := by
  intro n
  induction n using Nat.strongRecOn with
  | ind n ih =>
    intro ad G off c ps w had H
    by_cases h8 : n ≤ 8
    · exact form_leaf ad G off n c B dims ps w had H h8
    obtain ⟨i5, hi5, hz5, hsz5, hby5⟩ := info_parts Try.info5
    have HIh := hide ih
    have HH := hide H
    have HAd := hide had
    have hn2 := H.n2
    have hnc := H.cap
    have hc := H.cap2
    have hdm := H.dm
    obtain ⟨l, hl⟩ : ∃ x, x = ps.map (·.1) := ⟨_, rfl⟩
    have hln : l.length = n := by rw [hl, List.length_map, H.len]
    have hB1 : B ≤ w.heap.size := by have := H.arr.lt; have := H.low; omega
    have hrd : RdPo w w.heap.size (some ad) l := by rw [had, hl]; exact H.arr.rd H.ok hB1
    have hmem : ∀ p ∈ l, p.2.length = dims ∧ InI p.2 := fun p hp => by
      rw [hl] at hp
      obtain ⟨q, hq, rfl⟩ := List.mem_map.1 hp
      exact ⟨(H.ok q hq).1, (H.fit q hq).1⟩
    have HWi := hide (widest_any (some ad) n c w.heap.size dims l w hln (by omega) hnc hc (Nat.le_refl _) hmem hdm.2 hrd)
    obtain ⟨d, hd⟩ : ∃ x, x = widF l dims := ⟨_, rfl⟩
    have hdd : d < dims := by rw [hd]; exact widF_lt l dims (by omega)
    rw [← hd] at HWi
    have HD := hide hd
    have HLl := hide hl
    have HLn := hide hln
    obtain ⟨k, hk⟩ : ∃ k, k = (n + 1) / 2 := ⟨_, rfl⟩
    have ek : ((n : Int) + 1) / 2 = (k : Int) := by omega
    have hkn : k < n := by omega
    have hk1 : 1 ≤ k := by omega
    have HK := hide hk
    unfold maxLen at hc
    clear hl hln hB1 hrd hmem hd hk ih H had
    go_enter Try.func10, Try.ntmps10
    go_wp2_with (fail)
    refine HWi.out.mono ?_
    rintro en w1 ⟨rfl, hf⟩
    have HF1 := hide hf
    clear hf HWi
    go_wp2_with (fail)
    have hOr := order_any d w1
    obtain ⟨w2, hw2⟩ : ∃ x, x = w1.alloc (.cells #[.int .i64 (d : Nat)] 3) := ⟨_, rfl⟩
    obtain ⟨bx, hbx⟩ : ∃ x, x = w1.heap.size := ⟨_, rfl⟩
    rw [← hw2, ← hbx] at hOr
    have f2 : Fr No w1 w2 := by rw [hw2]; exact (Fr.refl No w1).alloc _
    have hcx : w2.cell? ⟨bx, 0, none⟩ = some (.int .i64 (d : Nat)) := by rw [hw2, hbx]; exact cell_of_row _ _ 0 _ _ _ (heap_alloc_new w1 _)
    have HF2 := hide (HF1.out.tr f2)
    have HH2 := hide (HH.out.fr HF2.out (fun h => h) (fun _ _ h => h))
    have HSo := hide (sortPts_any d dims bx G off n c B ps w2 HH2.out.len (by omega) (by omega) hdd HH2.out.ok HH2.out.arr HH2.out.low hcx (by have := HH.out.arr.lt; have := HF1.out.size; omega))
    rw [← HAd.out] at HSo
    clear hw2 hbx f2 hcx
    refine hOr.mono ?_
    rintro en wz ⟨rfl, rfl⟩
    clear hOr
    go_wp2_with (fail)
    refine HSo.out.mono ?_
    rintro en w3 ⟨rfl, ps2, hperm, hmap, harr, hfr, hap⟩
    rw [← HLl.out] at hmap
    have hB2 : ∀ k, k < B → ¬ Is G k := fun k hk e => by have e : k = G := e; have := HH.out.low; omega
    have HH3 : Hid (FormH w3 G off n c B dims ps2) := hide ⟨by rw [hperm.length_eq, HH.out.len], HH.out.n1, HH.out.n2, HH.out.cap, HH.out.cap2, fun p hp => (HH2.out.ok p (hperm.mem_iff.1 hp)).fr hfr hB2, fun p hp => HH.out.fit p (hperm.mem_iff.1 hp), harr, HH.out.low, HH.out.dm⟩
    have HF3 : Hid (Fr (Is G) w w3) := hide ((HF2.out.any (Is G)).trans hfr (fun i hi e => e))
    have HA3 : Hid (Apart2 w w3 G off (off + n * 2)) := hide ((Apart2.fr0 HF2.out HH.out.arr.lt).tr hap)
    have HMap := hide hmap
    clear hperm hmap harr hfr hap HSo hB2
    -- the number at the cut
    have hB3 : B ≤ w3.heap.size := by have := HH3.out.arr.lt; have := HH3.out.low; omega
    have hrd : RdPo w3 w3.heap.size (some ad) (ps2.map (·.1)) := by rw [HAd.out]; exact HH3.out.arr.rd HH3.out.ok hB3
    have hl2n : (ps2.map (·.1)).length = n := by rw [List.length_map, HH3.out.len]
    obtain ⟨ad', Ak, ck, e, _, k0, k1, g1, g2, hrk⟩ := hrd.at (k := k) (by rw [hl2n]; exact hkn)
    cases e
    have hpk : ((ps2.map (·.1)).getD k noPo).2.length = dims ∧ InI ((ps2.map (·.1)).getD k noPo).2 := by
      obtain ⟨q, hq, e⟩ := List.mem_map.1 (getP_mem (b := ps2.map (·.1)) (i := k) (by rw [hl2n]; exact hkn))
      rw [← e]
      exact ⟨(HH3.out.ok q hq).1, (HH3.out.fit q hq).1⟩
    obtain ⟨pk, hpke⟩ : ∃ x, x = (ps2.map (·.1)).getD k noPo := ⟨_, rfl⟩
    rw [← hpke] at k0 k1 g1 hrk hpk
    rw [hpk.1] at k1 g1
    obtain ⟨ad1, rfl, _, hx⟩ := hrk.intAt (j := d) (by rw [hpk.1]; exact hdd)
    have hxI := hpk.2 (pk.2.getD d 0) (by rw [List.getD, List.getElem?_eq_getElem (by rw [hpk.1]; exact hdd)]; exact List.getElem_mem _)
    obtain ⟨x, hxe⟩ : ∃ x, x = pk.2.getD d 0 := ⟨_, rfl⟩
    rw [← hxe] at hx hxI
    have HXe : Hid (x = ((sortP d l).getD k noPt).2.getD d 0) := hide (by rw [hxe, hpke, HMap.out]; rfl)
    have HXi := hide hxI
    unfold maxLen at g2
    clear hB3 hrd hl2n hpk hpke hrk hxe hxI
    go_wp2_with (fail)
    have HH4 : Hid (FormH w3 G off k c B dims (ps2.take k)) := hide ⟨by rw [List.length_take, HH3.out.len]; omega, hk1, by have := HH3.out.n2; omega, by have := HH3.out.cap; omega, HH3.out.cap2, fun p hp => HH3.out.ok p (List.mem_of_mem_take hp), fun p hp => HH3.out.fit p (List.mem_of_mem_take hp), HH3.out.arr.take k, HH3.out.low, HH3.out.dm⟩
    refine (HIh.out k hkn ad G off c (ps2.take k) w3 HAd.out HH4.out).mono ?_
    rintro en w4 ⟨⟨vL, rfl, hown⟩, hfr, hap⟩
    have hmt : (ps2.take k).map (·.1) = (sortP d l).take k := by rw [List.map_take, HMap.out]
    have hmd : (ps2.drop k).map (·.1) = (sortP d l).drop k := by rw [List.map_drop, HMap.out]
    rw [hmt] at hown
    have HMd := hide hmd
    have hL := treeP_le dims k ((sortP d l).take k) (by rw [List.length_take, sortP_len, HLn.out]; omega) hk1 (fun p hp => by
      have := List.mem_of_mem_take hp
      rw [← HMap.out] at this
      obtain ⟨q, hq, rfl⟩ := List.mem_map.1 this
      rw [(HH3.out.ok q hq).1]; exact hdm.2)
    obtain ⟨L, hLe⟩ : ∃ x, x = treeP dims ((sortP d l).take k) := ⟨_, rfl⟩
    rw [← hLe] at hown hL
    obtain ⟨ln, hln⟩ : ∃ x, x = L.length := ⟨_, rfl⟩
    rw [← hln] at hown hL
    obtain ⟨AL, cL, rfl, z1, z2, _, z3, _⟩ := hown.form
    have HOL := hide hown
    have HLe := hide hLe
    have HLnn := hide hln
    have HF4 : Hid (Fr (Is G) w w4) := hide (HF3.out.trans hfr (fun i hi e => e))
    have HA4 : Hid (Apart2 w w4 G off (off + n * 2)) := hide (HA3.out.tr (hap.wide (Nat.le_refl _) (by omega)))
    have hB2 : ∀ k, k < B → ¬ Is G k := fun k hk e => by have e : k = G := e; have := HH.out.low; omega
    have HH5 : Hid (FormH w4 G (off + k * 2) (n - k) (c - k) B dims (ps2.drop k)) := hide ⟨by rw [List.length_drop, HH3.out.len], by omega, by have := HH3.out.n2; omega, by have := HH3.out.cap; omega, by have := HH3.out.cap2; omega, fun p hp => (HH3.out.ok p (List.mem_of_mem_drop hp)).fr hfr hB2, fun p hp => HH3.out.fit p (List.mem_of_mem_drop hp), (HH3.out.arr.drop k).apart hap hfr.size (.inl (Nat.le_refl _)), HH3.out.low, HH3.out.dm⟩
    have ho1 := own_new8 w4 #[.int .u8 1] 1 [1] 5 rfl rfl (by decide)
    obtain ⟨w5, hw5⟩ : ∃ x, x = w4.alloc (.cells #[.int .u8 1] 5) := ⟨_, rfl⟩
    obtain ⟨g5, hg5⟩ : ∃ x, x = w4.heap.size := ⟨_, rfl⟩
    rw [← hw5, ← hg5] at ho1
    have HPu := hide (putU_any (some ⟨g5, 0, none⟩) 1 1 w5.heap.size [1] d w5 rfl (Nat.le_refl _) (by decide) (by omega) (Nat.le_refl _) ho1.rd (by omega))
    have f5 : Fr No w4 w5 := by rw [hw5]; exact (Fr.refl No w4).alloc _
    have HF45 := hide f5
    unfold maxLen at z2
    have HW5 := hide hw5
    have HG5 := hide hg5
    clear hmt hmd hLe hln hown hfr hap hB2 ho1 f5 hw5 hg5
    go_wp2_with (fail)
    rw [← HW5.out, ← HG5.out]
    refine HPu.out.mono ?_
    rintro en w6 ⟨v6, rfl, hown, hfr⟩
    obtain ⟨n6, hn6⟩ : ∃ x, x = ([1] ++ enc d : List UInt8).length := ⟨_, rfl⟩
    have hn6b : n6 ≤ 11 := by have := (enc_len d).2; rw [hn6, List.length_append]; simp; omega
    rw [← hn6] at hown
    obtain ⟨A6, c6, rfl, y1, y2, _, y3, _⟩ := hown.form
    have HPi := hide (putI_any A6 n6 c6 w6.heap.size ([1] ++ enc d) x w6 hn6.symm y1 y2 (by omega) (Nat.le_refl _) y3 HXi.out.1 HXi.out.2)
    have HF46 := hide (HF45.out.tr hfr)
    have HN6 := hide hn6
    unfold maxLen at y2
    clear hown hfr hn6 y3 HPu HF45
    go_wp2_with (fail)
    refine HPi.out.mono ?_
    rintro en w7 ⟨v7, rfl, hown, hfr⟩
    obtain ⟨X, hX⟩ : ∃ X, X = ([1] ++ enc d : List UInt8) ++ enc (zz x) := ⟨_, rfl⟩
    obtain ⟨n7, hn7⟩ : ∃ y, y = X.length := ⟨_, rfl⟩
    rw [← hX, ← hn7] at hown
    have hn7b : n7 ≤ 21 := by have := (enc_len (zz x)).2; rw [hn7, hX, List.length_append, ← HN6.out]; omega
    have HO7 := hide hown
    have HF47 := hide (HF46.out.tr hfr)
    have HX := hide hX
    have HN7 := hide hn7
    have HPn := hide (fun W => putU_any none 0 0 0 [] ln W rfl (Nat.le_refl _) (Nat.zero_le _) (by omega) (Nat.zero_le _) (fun j u hu => by simp [by8] at hu) (by omega))
    obtain ⟨el, hel⟩ : ∃ y, y = (enc ln).length := ⟨_, rfl⟩
    have hel10 := (enc_len ln).2
    rw [← hel] at hel10
    have HEl := hide hel
    have b1 : (n7 + el) * 1 ≤ 140737488355328 := by omega
    have b2 : n7 + el ≤ maxLen := by unfold maxLen; omega
    obtain ⟨base, hbase⟩ : ∃ y, y = w6.heap.size := ⟨_, rfl⟩
    rw [← hbase] at HO7
    have hz7 : base ≤ w7.heap.size := by rw [hbase]; exact hfr.size
    have hbase4 : w4.heap.size ≤ base := by rw [hbase]; exact HF46.out.size
    clear hown hfr hX hn7 hel hbase HPi HF46
    go_wp2_with (first
      | (go_at_call 12; refine (HPn.out _).mono ?_; rintro en w8 ⟨v8, rfl, hown, hfr⟩; rw [List.nil_append, ← HEl.out] at hown; obtain ⟨A8, c8, rfl, p1, p2, _, p3, _⟩ := hown.form; have HS8 := hide (Src.ofRd (P := Try.prog) (size := 1) w8 Try.underlying28 A8 el c8 (by8 (enc ln)) (by rw [by8_length, ← HEl.out, Nat.mul_one]) (by omega) p3 (by8_one _)); have HO8 := hide (HO7.out.fr0 hfr); have HF48 : Hid (Fr No w4 w8) := hide (HF47.out.tr hfr); have hz8 : base ≤ w8.heap.size := Nat.le_trans hz7 hfr.size; unfold maxLen at p2; clear hown hfr p3)
      | (at_builtin; refine wpList_append_gen _ rfl (.tmp 83) (.tmp 87) 28 28 rfl base 5 i5 (.int .u8 0) 1 1 Try.underlying28 hi5 hz5 hsz5 hby5 rfl v7 n7 (by8 X) rfl HO8.out _ el (by8 (enc ln)) rfl HS8.out b1 b2 hz8 ?_; intro v9 w9 hown hfr hat; have HO9 := hide hown; have HZb := hide (Nat.le_trans hz8 hfr.size); have HF49 : Hid (Fr No w4 w9) := hide (HF48.out.own hfr (fun g hg => .inl (Nat.le_trans hbase4 (HO8.out.lt g hg).1))); clear hown hfr hat))
    obtain ⟨Y, hY⟩ : ∃ Y, Y = X ++ enc ln := ⟨_, rfl⟩
    obtain ⟨n9, hn9⟩ : ∃ y, y = n7 + el := ⟨_, rfl⟩
    have hYl : Y.length = n9 := by rw [hY, List.length_append, ← HN7.out, ← HEl.out, hn9]
    have ho9 := HO9.out
    rw [← hn9, ← by8_append, ← hY] at ho9
    have HY := hide hY
    have HYl := hide hYl
    have hn9b : n9 ≤ 31 := by omega
    have HOd := hide (ho9.fr0 (Fr.refl No w9).drew)
    have HLd := hide ((HOL.out.fr0 HF49.out).fr0 (Fr.refl No w9).drew)
    obtain ⟨_, _, eL, _, _, _, zL, _⟩ := HLd.out.form
    cases eL
    have HSL := hide (Src.ofRd (P := Try.prog) (size := 1) w9.drew Try.underlying28 AL ln cL (by8 L) (by rw [by8_length, ← HLnn.out, Nat.mul_one]) (by omega) zL (by8_one _))
    have b1 : (n9 + ln) * 1 ≤ 140737488355328 := by omega
    have b2 : n9 + ln ≤ maxLen := by unfold maxLen; omega
    have hz9 : base ≤ w9.drew.heap.size := by
      have h1 := (HOd.out.lt)
      have h2 := HF49.out.size
      have h3 := HZb.out
      exact h3
    have hR := treeP_le dims (n - k) ((sortP d l).drop k) (by rw [List.length_drop, sortP_len, HLn.out]) (by omega) (fun p hp => by
      have := List.mem_of_mem_drop hp
      rw [← HMap.out] at this
      obtain ⟨q, hq, rfl⟩ := List.mem_map.1 this
      rw [(HH3.out.ok q hq).1]; exact hdm.2)
    obtain ⟨R, hRe⟩ : ∃ x, x = treeP dims ((sortP d l).drop k) := ⟨_, rfl⟩
    rw [← hRe] at hR
    obtain ⟨rn, hrn⟩ : ∃ x, x = R.length := ⟨_, rfl⟩
    rw [← hrn] at hR
    have HRe := hide hRe
    have HRn := hide hrn
    have b3 : (n9 + ln + rn) * 1 ≤ 140737488355328 := by omega
    have b4 : n9 + ln + rn ≤ maxLen := by unfold maxLen; omega
    have HRc := hide (fun (W : World) (f : Fr No w4 W) => HIh.out (n - k) (by omega) (ad.add (k * 2)) G (off + k * 2) (c - k) (ps2.drop k) W (by rw [HAd.out]; exact add_lit2 G off k) (HH5.out.fr f (fun h => h) (fun _ _ h => h)))
    have HGb : Hid (G < base) := hide (Nat.lt_of_lt_of_le HH5.out.arr.lt hbase4)
    clear hY hn9 hYl ho9 zL hRe hrn
    have HT : Hid (treeP dims (ps.map (·.1)) = Y ++ L ++ R) := hide (by
      rw [← HLl.out, treeP_cut (dims := dims) (d := d) (n := k) (s := sortP d l) (by rw [HLn.out]; exact h8) HD.out rfl (by rw [HLn.out]; exact HK.out), ← HLe.out, ← HLnn.out, ← HXe.out, ← HRe.out, HY.out, HX.out]
      simp)
    have HTl : Hid ((Y ++ L ++ R).length = n9 + ln + rn) := hide (by rw [List.length_append, List.length_append, HYl.out, ← HLnn.out, ← HRn.out])
    have HBw : Hid (w.heap.size ≤ base) := hide (Nat.le_trans HF4.out.size hbase4)
    have hkle : k ≤ n := by omega
    have hck : ¬ c = k := by omega
    go_region_law (first
      | (refine step_append_any rfl (.tmp 91) (.tmp 96) 28 28 rfl base 5 i5 (.int .u8 0) 1 1 Try.underlying28 hi5 hz5 hsz5 hby5 rfl v10 (n9 + ln) (by8 Y ++ by8 L) rfl HO11.out _ rn (by8 R) rfl HS11.out b3 b4 hz11 ?_; intro v12 w12 hown hfr; have HO12 := hide hown; have HF12 := hide hfr; clear hown hfr)
      | (go_simp; go_at_call 10; refine (HRc.out _ HF410.out).mono ?_; rintro en w11 ⟨⟨vR, rfl, hown⟩, hfr, hap⟩; rw [HMd.out, ← HRe.out, ← HRn.out] at hown; obtain ⟨AR, cR, rfl, r1, r2, _, r3, _⟩ := hown.form; have HS11 := hide (Src.ofRd (P := Try.prog) (size := 1) w11 Try.underlying28 AR rn cR (by8 R) (by rw [by8_length, ← HRn.out, Nat.mul_one]) (by omega) r3 (by8_one _)); have HO11 := hide (HO10.out.fr hfr (fun g hg e => by have e : g = G := e; have := (HO10.out.lt g hg).1; have := HGb.out; omega)); have HF11 := hide hfr; have HA11 := hide hap; have hz11 := Nat.le_trans HZ10.out hfr.size; clear hown hfr hap r3)
      | (refine step_append_any rfl (.tmp 89) (.tmp 90) 28 28 rfl base 5 i5 (.int .u8 0) 1 1 Try.underlying28 hi5 hz5 hsz5 hby5 rfl v9 n9 (by8 Y) rfl HOd.out _ ln (by8 L) rfl HSL.out b1 b2 hz9 ?_; intro v10 w10 hown hfr; have HO10 := hide hown; have HF410 : Hid (Fr No w4 w10) := hide (HF49.out.drew.own hfr (fun g hg => .inl (Nat.le_trans hbase4 (HOd.out.lt g hg).1))); have HZ10 := hide (Nat.le_trans hz9 hfr.size); clear hown hfr))
    all_goals (go_wp2; go_ret)
    all_goals (
      refine ⟨⟨v12, rfl, ?_⟩, ?_, ?_⟩
      · rw [HT.out, by8_append, by8_append, HTl.out]
        exact HO12.out.lower HBw.out
      · exact ((HF4.out.trans HF410.out (fun i hi e => e.elim)).trans HF11.out (fun i hi e => e)).own HF12.out (fun g hg => .inl (Nat.le_trans HBw.out (HO11.out.lt g hg).1))
      · refine ((HA4.out.tr (Apart2.fr0 HF410.out HH5.out.arr.lt)).tr (HA11.out.wide (by omega) (by omega))).fr HF12.out (fun e => ?_) ?_
        · have := (HO11.out.lt G e).1; have := HGb.out; omega
        · exact Nat.lt_of_lt_of_le (Nat.lt_of_lt_of_le HH5.out.arr.lt HF410.out.size) HF11.out.size)
end Go.Proofs.Ytkenjhalamdjfaa
