/- Several texts in one: BkG, BkB, Turn, BkU. -/
import Derived.Test.YtpopbkcbplmcaaaGreatK8
import Derived.Deep.RegionLaw
import Derived.IntWalk
namespace Go.Proofs.YtpopbkcbplmcaaaGreat
set_option linter.unusedVariables false
set_option linter.unusedSimpArgs false
open Go.RowKit

theorem pFlat_take (ps : List PoL) (k : Nat) : pFlat (ps.take k) = (pFlat ps).take (k * 2) := by
  induction ps generalizing k with
  | nil => simp [pFlat]
  | cons p r ih =>
    cases k with
    | zero => simp [pFlat]
    | succ k =>
      have e : pFlat (p :: r) = pRow p ++ pFlat r := rfl
      have e2 : pFlat (p :: r.take k) = pRow p ++ pFlat (r.take k) := rfl
      rw [List.take_succ_cons, e, e2, ih, show (k + 1) * 2 = (pRow p).length + k * 2 by simp [pRow]; omega, List.take_length_add_append]
theorem pFlat_drop (ps : List PoL) (k : Nat) : pFlat (ps.drop k) = (pFlat ps).drop (k * 2) := by
  induction ps generalizing k with
  | nil => simp [pFlat]
  | cons p r ih =>
    cases k with
    | zero => simp
    | succ k =>
      have e : pFlat (p :: r) = pRow p ++ pFlat r := rfl
      rw [List.drop_succ_cons, e, ih, show (k + 1) * 2 = (pRow p).length + k * 2 by simp [pRow]; omega, List.drop_length_add_append]
theorem ArrP.take {w : World} {G off : Nat} {ps : List PoL} (h : ArrP w G off ps) (k : Nat) : ArrP w G off (ps.take k) := by
  refine ⟨fun j u hu => ?_, h.lt⟩
  rw [pFlat_take, List.getElem?_take] at hu
  split at hu
  · exact h.cell j u hu
  · cases hu
theorem ArrP.drop {w : World} {G off : Nat} {ps : List PoL} (h : ArrP w G off ps) (k : Nat) : ArrP w G (off + k * 2) (ps.drop k) := by
  refine ⟨fun j u hu => ?_, h.lt⟩
  rw [pFlat_drop, List.getElem?_drop] at hu
  have h1 := h.cell _ u hu
  rw [Nat.add_assoc]
  exact h1
/-- points outside a part that changes. -/
theorem ArrP.apart {w w' : World} {G off lo hi : Nat} {ps : List PoL} (h : ArrP w G off ps) (ha : Apart2 w w' G lo hi) (hs : w.heap.size ≤ w'.heap.size) (hd : hi ≤ off ∨ off + ps.length * 2 ≤ lo) : ArrP w' G off ps := by
  refine ⟨fun j u hu => ?_, Nat.lt_of_lt_of_le h.lt hs⟩
  have hj := (List.getElem?_eq_some_iff.1 hu).1
  rw [pFlat_len] at hj
  have h1 := h.cell j u hu
  have h2 := ha (off + j) (by omega)
  rw [h2.1, h2.2]
  exact h1
theorem FormH.fr {S : Nat → Prop} {w w' : World} {G off n c B dims : Nat} {ps : List PoL} (h : FormH w G off n c B dims ps) (f : Fr S w w') (hG : ¬ S G) (hB : ∀ k, k < B → ¬ S k) : FormH w' G off n c B dims ps :=
  ⟨h.len, h.n1, h.n2, h.cap, h.cap2, fun p hp => (h.ok p hp).fr f hB, h.fit, h.arr.fr f hG, h.low, h.dm⟩
theorem add_lit2 (G off k : Nat) : (⟨G, off, none⟩ : Addr).add (k * 2) = ⟨G, off + k * 2, none⟩ := Addr.add_lit _ _ _
set_option maxRecDepth 100000 in
set_option maxHeartbeats 8000000 in
theorem form_any (dims B : Nat) : ∀ (n : Nat) (ad : Addr) (G off c : Nat) (ps : List PoL) (w : World), ad = ⟨G, off, none⟩ → FormH w G off n c B dims ps →
    Calls Tryz.prog 42 #[.int .i64 (dims : Nat), .slice (some ad) n c] w (FormQ w G off n dims (ps.map (·.1))) := by
  intro n
  induction n using Nat.strongRecOn with
  | ind n ih =>
    intro ad G off c ps w had H
    by_cases h8 : n ≤ 8
    · exact form_leaf ad G off n c B dims ps w had H h8
    obtain ⟨i5, hi5, hz5, hsz5, hby5⟩ := info_parts Tryz.info5
    have HIh := hide ih
    have HH := hide H
    have HAd := hide had
    have hn2 := H.n2
    have hnc := H.cap
    have hc := H.cap2
    have hdm := H.dm
    obtain ⟨l, hl⟩ : ∃ x, x = ps.map (·.1) := ⟨_, rfl⟩
    have hln : l.length = n := by rw [hl, List.length_map, H.len]
    have hB1 : B ≤ w.heap.size := by have := H.arr.lt; have := H.low; omega
    have hrd : RdPo w w.heap.size (some ad) l := by rw [had, hl]; exact H.arr.rd H.ok hB1
    have hmem : ∀ p ∈ l, p.2.length = dims ∧ InI p.2 := fun p hp => by
      rw [hl] at hp
      obtain ⟨q, hq, rfl⟩ := List.mem_map.1 hp
      exact ⟨(H.ok q hq).1, (H.fit q hq).1⟩
    have HWi := hide (widest_any (some ad) n c w.heap.size dims l w hln (by omega) hnc hc (Nat.le_refl _) hmem hdm.2 hrd)
    obtain ⟨d, hd⟩ : ∃ x, x = widF l dims := ⟨_, rfl⟩
    have hdd : d < dims := by rw [hd]; exact widF_lt l dims (by omega)
    rw [← hd] at HWi
    have HD := hide hd
    have HLl := hide hl
    have HLn := hide hln
    obtain ⟨k, hk⟩ : ∃ k, k = (n + 1) / 2 := ⟨_, rfl⟩
    have ek : ((n : Int) + 1) / 2 = (k : Int) := by omega
    have hkn : k < n := by omega
    have hk1 : 1 ≤ k := by omega
    have HK := hide hk
    unfold maxLen at hc
    clear hl hln hB1 hrd hmem hd hk ih H had
    go_enter Tryz.func42, Tryz.ntmps42
    go_wp2_with (fail)
    refine HWi.out.mono ?_
    rintro en w1 ⟨rfl, hf⟩
    have HF1 := hide hf
    clear hf HWi
    go_wp2_with (fail)
    have hOr := order_any d w1
    obtain ⟨w2, hw2⟩ : ∃ x, x = w1.alloc (.cells #[.int .i64 (d : Nat)] 3) := ⟨_, rfl⟩
    obtain ⟨bx, hbx⟩ : ∃ x, x = w1.heap.size := ⟨_, rfl⟩
    rw [← hw2, ← hbx] at hOr
    have f2 : Fr No w1 w2 := by rw [hw2]; exact (Fr.refl No w1).alloc _
    have hcx : w2.cell? ⟨bx, 0, none⟩ = some (.int .i64 (d : Nat)) := by rw [hw2, hbx]; exact cell_of_row _ _ 0 _ _ _ (heap_alloc_new w1 _)
    have HF2 := hide (HF1.out.tr f2)
    have HH2 := hide (HH.out.fr HF2.out (fun h => h) (fun _ _ h => h))
    have HSo := hide (sortPts_any d dims bx G off n c B ps w2 HH2.out.len (by omega) (by omega) hdd HH2.out.ok HH2.out.arr HH2.out.low hcx (by have := HH.out.arr.lt; have := HF1.out.size; omega))
    rw [← HAd.out] at HSo
    clear hw2 hbx f2 hcx
    refine hOr.mono ?_
    rintro en wz ⟨rfl, rfl⟩
    clear hOr
    go_wp2_with (fail)
    refine HSo.out.mono ?_
    rintro en w3 ⟨rfl, ps2, hperm, hmap, harr, hfr, hap⟩
    rw [← HLl.out] at hmap
    have hB2 : ∀ k, k < B → ¬ Is G k := fun k hk e => by have e : k = G := e; have := HH.out.low; omega
    have HH3 : Hid (FormH w3 G off n c B dims ps2) := hide ⟨by rw [hperm.length_eq, HH.out.len], HH.out.n1, HH.out.n2, HH.out.cap, HH.out.cap2, fun p hp => (HH2.out.ok p (hperm.mem_iff.1 hp)).fr hfr hB2, fun p hp => HH.out.fit p (hperm.mem_iff.1 hp), harr, HH.out.low, HH.out.dm⟩
    have HF3 : Hid (Fr (Is G) w w3) := hide ((HF2.out.any (Is G)).trans hfr (fun i hi e => e))
    have HA3 : Hid (Apart2 w w3 G off (off + n * 2)) := hide ((Apart2.fr0 HF2.out HH.out.arr.lt).tr hap)
    have HMap := hide hmap
    clear hperm hmap harr hfr hap HSo hB2
    -- the number at the cut
    have hB3 : B ≤ w3.heap.size := by have := HH3.out.arr.lt; have := HH3.out.low; omega
    have hrd : RdPo w3 w3.heap.size (some ad) (ps2.map (·.1)) := by rw [HAd.out]; exact HH3.out.arr.rd HH3.out.ok hB3
    have hl2n : (ps2.map (·.1)).length = n := by rw [List.length_map, HH3.out.len]
    obtain ⟨ad', Ak, ck, e, _, k0, k1, g1, g2, hrk⟩ := hrd.at (k := k) (by rw [hl2n]; exact hkn)
    cases e
    have hpk : ((ps2.map (·.1)).getD k noPo).2.length = dims ∧ InI ((ps2.map (·.1)).getD k noPo).2 := by
      obtain ⟨q, hq, e⟩ := List.mem_map.1 (getP_mem (b := ps2.map (·.1)) (i := k) (by rw [hl2n]; exact hkn))
      rw [← e]
      exact ⟨(HH3.out.ok q hq).1, (HH3.out.fit q hq).1⟩
    obtain ⟨pk, hpke⟩ : ∃ x, x = (ps2.map (·.1)).getD k noPo := ⟨_, rfl⟩
    rw [← hpke] at k0 k1 g1 hrk hpk
    rw [hpk.1] at k1 g1
    obtain ⟨ad1, rfl, _, hx⟩ := hrk.intAt (j := d) (by rw [hpk.1]; exact hdd)
    have hxI := hpk.2 (pk.2.getD d 0) (by rw [List.getD, List.getElem?_eq_getElem (by rw [hpk.1]; exact hdd)]; exact List.getElem_mem _)
    obtain ⟨x, hxe⟩ : ∃ x, x = pk.2.getD d 0 := ⟨_, rfl⟩
    rw [← hxe] at hx hxI
    have HXe : Hid (x = ((sortP d l).getD k noPt).2.getD d 0) := hide (by rw [hxe, hpke, HMap.out]; rfl)
    have HXi := hide hxI
    unfold maxLen at g2
    clear hB3 hrd hl2n hpk hpke hrk hxe hxI
    go_wp2_with (fail)
    have HH4 : Hid (FormH w3 G off k c B dims (ps2.take k)) := hide ⟨by rw [List.length_take, HH3.out.len]; omega, hk1, by have := HH3.out.n2; omega, by have := HH3.out.cap; omega, HH3.out.cap2, fun p hp => HH3.out.ok p (List.mem_of_mem_take hp), fun p hp => HH3.out.fit p (List.mem_of_mem_take hp), HH3.out.arr.take k, HH3.out.low, HH3.out.dm⟩
    refine (HIh.out k hkn ad G off c (ps2.take k) w3 HAd.out HH4.out).mono ?_
    rintro en w4 ⟨⟨vL, rfl, hown⟩, hfr, hap⟩
    have hmt : (ps2.take k).map (·.1) = (sortP d l).take k := by rw [List.map_take, HMap.out]
    have hmd : (ps2.drop k).map (·.1) = (sortP d l).drop k := by rw [List.map_drop, HMap.out]
    rw [hmt] at hown
    have HMd := hide hmd
    have hL := treeP_le dims k ((sortP d l).take k) (by rw [List.length_take, sortP_len, HLn.out]; omega) hk1 (fun p hp => by
      have := List.mem_of_mem_take hp
      rw [← HMap.out] at this
      obtain ⟨q, hq, rfl⟩ := List.mem_map.1 this
      rw [(HH3.out.ok q hq).1]; exact hdm.2)
    obtain ⟨L, hLe⟩ : ∃ x, x = treeP dims ((sortP d l).take k) := ⟨_, rfl⟩
    rw [← hLe] at hown hL
    obtain ⟨ln, hln⟩ : ∃ x, x = L.length := ⟨_, rfl⟩
    rw [← hln] at hown hL
    obtain ⟨AL, cL, rfl, z1, z2, _, z3, _⟩ := hown.form
    have HOL := hide hown
    have HLe := hide hLe
    have HLnn := hide hln
    have HF4 : Hid (Fr (Is G) w w4) := hide (HF3.out.trans hfr (fun i hi e => e))
    have HA4 : Hid (Apart2 w w4 G off (off + n * 2)) := hide (HA3.out.tr (hap.wide (Nat.le_refl _) (by omega)))
    have hB2 : ∀ k, k < B → ¬ Is G k := fun k hk e => by have e : k = G := e; have := HH.out.low; omega
    have HH5 : Hid (FormH w4 G (off + k * 2) (n - k) (c - k) B dims (ps2.drop k)) := hide ⟨by rw [List.length_drop, HH3.out.len], by omega, by have := HH3.out.n2; omega, by have := HH3.out.cap; omega, by have := HH3.out.cap2; omega, fun p hp => (HH3.out.ok p (List.mem_of_mem_drop hp)).fr hfr hB2, fun p hp => HH3.out.fit p (List.mem_of_mem_drop hp), (HH3.out.arr.drop k).apart hap hfr.size (.inl (Nat.le_refl _)), HH3.out.low, HH3.out.dm⟩
    have ho1 := own_new8 w4 #[.int .u8 1] 1 [1] 5 rfl rfl (by decide)
    obtain ⟨w5, hw5⟩ : ∃ x, x = w4.alloc (.cells #[.int .u8 1] 5) := ⟨_, rfl⟩
    obtain ⟨g5, hg5⟩ : ∃ x, x = w4.heap.size := ⟨_, rfl⟩
    rw [← hw5, ← hg5] at ho1
    have HPu := hide (putU_any (some ⟨g5, 0, none⟩) 1 1 w5.heap.size [1] d w5 rfl (Nat.le_refl _) (by decide) (by omega) (Nat.le_refl _) ho1.rd (by omega))
    have f5 : Fr No w4 w5 := by rw [hw5]; exact (Fr.refl No w4).alloc _
    have HF45 := hide f5
    unfold maxLen at z2
    have HW5 := hide hw5
    have HG5 := hide hg5
    clear hmt hmd hLe hln hown hfr hap hB2 ho1 f5 hw5 hg5
    go_wp2_with (fail)
    rw [← HW5.out, ← HG5.out]
    refine HPu.out.mono ?_
    rintro en w6 ⟨v6, rfl, hown, hfr⟩
    obtain ⟨n6, hn6⟩ : ∃ x, x = ([1] ++ enc d : List UInt8).length := ⟨_, rfl⟩
    have hn6b : n6 ≤ 11 := by have := (enc_len d).2; rw [hn6, List.length_append]; simp; omega
    rw [← hn6] at hown
    obtain ⟨A6, c6, rfl, y1, y2, _, y3, _⟩ := hown.form
    have HPi := hide (putI_any A6 n6 c6 w6.heap.size ([1] ++ enc d) x w6 hn6.symm y1 y2 (by omega) (Nat.le_refl _) y3 HXi.out.1 HXi.out.2)
    have HF46 := hide (HF45.out.tr hfr)
    have HN6 := hide hn6
    unfold maxLen at y2
    clear hown hfr hn6 y3 HPu HF45
    go_wp2_with (fail)
    refine HPi.out.mono ?_
    rintro en w7 ⟨v7, rfl, hown, hfr⟩
    obtain ⟨X, hX⟩ : ∃ X, X = ([1] ++ enc d : List UInt8) ++ enc (zz x) := ⟨_, rfl⟩
    obtain ⟨n7, hn7⟩ : ∃ y, y = X.length := ⟨_, rfl⟩
    rw [← hX, ← hn7] at hown
    have hn7b : n7 ≤ 21 := by have := (enc_len (zz x)).2; rw [hn7, hX, List.length_append, ← HN6.out]; omega
    have HO7 := hide hown
    have HF47 := hide (HF46.out.tr hfr)
    have HX := hide hX
    have HN7 := hide hn7
    have HPn := hide (fun W => putU_any none 0 0 0 [] ln W rfl (Nat.le_refl _) (Nat.zero_le _) (by omega) (Nat.zero_le _) (fun j u hu => by simp [by8] at hu) (by omega))
    obtain ⟨el, hel⟩ : ∃ y, y = (enc ln).length := ⟨_, rfl⟩
    have hel10 := (enc_len ln).2
    rw [← hel] at hel10
    have HEl := hide hel
    have b1 : (n7 + el) * 1 ≤ 140737488355328 := by omega
    have b2 : n7 + el ≤ maxLen := by unfold maxLen; omega
    obtain ⟨base, hbase⟩ : ∃ y, y = w6.heap.size := ⟨_, rfl⟩
    rw [← hbase] at HO7
    have hz7 : base ≤ w7.heap.size := by rw [hbase]; exact hfr.size
    have hbase4 : w4.heap.size ≤ base := by rw [hbase]; exact HF46.out.size
    clear hown hfr hX hn7 hel hbase HPi HF46
    go_wp2_with (first
      | (go_at_call 44; refine (HPn.out _).mono ?_; rintro en w8 ⟨v8, rfl, hown, hfr⟩; rw [List.nil_append, ← HEl.out] at hown; obtain ⟨A8, c8, rfl, p1, p2, _, p3, _⟩ := hown.form; have HS8 := hide (Src.ofRd (P := Tryz.prog) (size := 1) w8 Tryz.underlying22 A8 el c8 (by8 (enc ln)) (by rw [by8_length, ← HEl.out, Nat.mul_one]) (by omega) p3 (by8_one _)); have HO8 := hide (HO7.out.fr0 hfr); have HF48 : Hid (Fr No w4 w8) := hide (HF47.out.tr hfr); have hz8 : base ≤ w8.heap.size := Nat.le_trans hz7 hfr.size; unfold maxLen at p2; clear hown hfr p3)
      | (at_builtin; refine wpList_append_gen _ rfl (.tmp 83) (.tmp 87) 22 22 rfl base 5 i5 (.int .u8 0) 1 1 Tryz.underlying22 hi5 hz5 hsz5 hby5 rfl v7 n7 (by8 X) rfl HO8.out _ el (by8 (enc ln)) rfl HS8.out b1 b2 hz8 ?_; intro v9 w9 hown hfr hat; have HO9 := hide hown; have HZb := hide (Nat.le_trans hz8 hfr.size); have HF49 : Hid (Fr No w4 w9) := hide (HF48.out.own hfr (fun g hg => .inl (Nat.le_trans hbase4 (HO8.out.lt g hg).1))); clear hown hfr hat))
    obtain ⟨Y, hY⟩ : ∃ Y, Y = X ++ enc ln := ⟨_, rfl⟩
    obtain ⟨n9, hn9⟩ : ∃ y, y = n7 + el := ⟨_, rfl⟩
    have hYl : Y.length = n9 := by rw [hY, List.length_append, ← HN7.out, ← HEl.out, hn9]
    have ho9 := HO9.out
    rw [← hn9, ← by8_append, ← hY] at ho9
    have HY := hide hY
    have HYl := hide hYl
    have hn9b : n9 ≤ 31 := by omega
    have HOd := hide (ho9.fr0 (Fr.refl No w9).drew)
    have HLd := hide ((HOL.out.fr0 HF49.out).fr0 (Fr.refl No w9).drew)
    obtain ⟨_, _, eL, _, _, _, zL, _⟩ := HLd.out.form
    cases eL
    have HSL := hide (Src.ofRd (P := Tryz.prog) (size := 1) w9.drew Tryz.underlying22 AL ln cL (by8 L) (by rw [by8_length, ← HLnn.out, Nat.mul_one]) (by omega) zL (by8_one _))
    have b1 : (n9 + ln) * 1 ≤ 140737488355328 := by omega
    have b2 : n9 + ln ≤ maxLen := by unfold maxLen; omega
    have hz9 : base ≤ w9.drew.heap.size := by
      have h1 := (HOd.out.lt)
      have h2 := HF49.out.size
      have h3 := HZb.out
      exact h3
    have hR := treeP_le dims (n - k) ((sortP d l).drop k) (by rw [List.length_drop, sortP_len, HLn.out]) (by omega) (fun p hp => by
      have := List.mem_of_mem_drop hp
      rw [← HMap.out] at this
      obtain ⟨q, hq, rfl⟩ := List.mem_map.1 this
      rw [(HH3.out.ok q hq).1]; exact hdm.2)
    obtain ⟨R, hRe⟩ : ∃ x, x = treeP dims ((sortP d l).drop k) := ⟨_, rfl⟩
    rw [← hRe] at hR
    obtain ⟨rn, hrn⟩ : ∃ x, x = R.length := ⟨_, rfl⟩
    rw [← hrn] at hR
    have HRe := hide hRe
    have HRn := hide hrn
    have b3 : (n9 + ln + rn) * 1 ≤ 140737488355328 := by omega
    have b4 : n9 + ln + rn ≤ maxLen := by unfold maxLen; omega
    have HRc := hide (fun (W : World) (f : Fr No w4 W) => HIh.out (n - k) (by omega) (ad.add (k * 2)) G (off + k * 2) (c - k) (ps2.drop k) W (by rw [HAd.out]; exact add_lit2 G off k) (HH5.out.fr f (fun h => h) (fun _ _ h => h)))
    have HGb : Hid (G < base) := hide (Nat.lt_of_lt_of_le HH5.out.arr.lt hbase4)
    clear hY hn9 hYl ho9 zL hRe hrn
    have HT : Hid (treeP dims (ps.map (·.1)) = Y ++ L ++ R) := hide (by
      rw [← HLl.out, treeP_cut (dims := dims) (d := d) (n := k) (s := sortP d l) (by rw [HLn.out]; exact h8) HD.out rfl (by rw [HLn.out]; exact HK.out), ← HLe.out, ← HLnn.out, ← HXe.out, ← HRe.out, HY.out, HX.out]
      simp)
    have HTl : Hid ((Y ++ L ++ R).length = n9 + ln + rn) := hide (by rw [List.length_append, List.length_append, HYl.out, ← HLnn.out, ← HRn.out])
    have HBw : Hid (w.heap.size ≤ base) := hide (Nat.le_trans HF4.out.size hbase4)
    have hkle : k ≤ n := by omega
    have hck : ¬ c = k := by omega
    go_region_law (first
      | (refine step_append_any rfl (.tmp 91) (.tmp 96) 22 22 rfl base 5 i5 (.int .u8 0) 1 1 Tryz.underlying22 hi5 hz5 hsz5 hby5 rfl v10 (n9 + ln) (by8 Y ++ by8 L) rfl HO11.out _ rn (by8 R) rfl HS11.out b3 b4 hz11 ?_; intro v12 w12 hown hfr; have HO12 := hide hown; have HF12 := hide hfr; clear hown hfr)
      | (go_simp; go_at_call 42; refine (HRc.out _ HF410.out).mono ?_; rintro en w11 ⟨⟨vR, rfl, hown⟩, hfr, hap⟩; rw [HMd.out, ← HRe.out, ← HRn.out] at hown; obtain ⟨AR, cR, rfl, r1, r2, _, r3, _⟩ := hown.form; have HS11 := hide (Src.ofRd (P := Tryz.prog) (size := 1) w11 Tryz.underlying22 AR rn cR (by8 R) (by rw [by8_length, ← HRn.out, Nat.mul_one]) (by omega) r3 (by8_one _)); have HO11 := hide (HO10.out.fr hfr (fun g hg e => by have e : g = G := e; have := (HO10.out.lt g hg).1; have := HGb.out; omega)); have HF11 := hide hfr; have HA11 := hide hap; have hz11 := Nat.le_trans HZ10.out hfr.size; clear hown hfr hap r3)
      | (refine step_append_any rfl (.tmp 89) (.tmp 90) 22 22 rfl base 5 i5 (.int .u8 0) 1 1 Tryz.underlying22 hi5 hz5 hsz5 hby5 rfl v9 n9 (by8 Y) rfl HOd.out _ ln (by8 L) rfl HSL.out b1 b2 hz9 ?_; intro v10 w10 hown hfr; have HO10 := hide hown; have HF410 : Hid (Fr No w4 w10) := hide (HF49.out.drew.own hfr (fun g hg => .inl (Nat.le_trans hbase4 (HOd.out.lt g hg).1))); have HZ10 := hide (Nat.le_trans hz9 hfr.size); clear hown hfr))
    all_goals (go_wp2; go_ret)
    all_goals (
      refine ⟨⟨v12, rfl, ?_⟩, ?_, ?_⟩
      · rw [HT.out, by8_append, by8_append, HTl.out]
        exact HO12.out.lower HBw.out
      · exact ((HF4.out.trans HF410.out (fun i hi e => e.elim)).trans HF11.out (fun i hi e => e)).own HF12.out (fun g hg => .inl (Nat.le_trans HBw.out (HO11.out.lt g hg).1))
      · refine ((HA4.out.tr (Apart2.fr0 HF410.out HH5.out.arr.lt)).tr (HA11.out.wide (by omega) (by omega))).fr HF12.out (fun e => ?_) ?_
        · have := (HO11.out.lt G e).1; have := HGb.out; omega
        · exact Nat.lt_of_lt_of_le (Nat.lt_of_lt_of_le HH5.out.arr.lt HF410.out.size) HF11.out.size)
end Go.Proofs.YtpopbkcbplmcaaaGreat
namespace Go.Proofs.YtpopbkcbplmcaaaGreat
set_option linter.unusedVariables false
set_option linter.unusedSimpArgs false
open Go.RowKit

instance (dims : Int) (l : List Pt) : Decidable (mayP dims l) := by unfold mayP; infer_instance
def keptP (dims : Int) (l : List Pt) : List UInt8 := if mayP dims l then buildT dims.toNat l else []
theorem keptP_no {dims : Int} {l : List Pt} (h : ¬ mayP dims l) : keptP dims l = [] := if_neg h
theorem keptP_yes {dims : Nat} {l : List Pt} (h : mayP (dims : Int) l) : keptP (dims : Int) l = buildT dims l := by
  rw [keptP, if_pos h, Int.toNat_natCast]
theorem own_emptyP (w : World) (e : TypeId) : Own (w.alloc (.cells #[] e)) w.heap.size e 2 (.slice (some ⟨w.heap.size, 0, none⟩) 0 0) 0 [] :=
  ⟨rfl, _, _, rfl, Nat.le_refl _, Nat.zero_le _, .inr ⟨w.heap.size, #[], rfl, Nat.le_refl _, heap_alloc_new w _, Nat.zero_le _, rfl⟩⟩
/-- a slice of the call's own, as points in a part of a block. -/
theorem arr_own {w : World} {base n : Nat} {v : Value} {ps : List PoL} (h : Own w base 46 2 v n (pFlat ps)) (hn : 1 ≤ n) : ∃ G off c, v = .slice (some ⟨G, off, none⟩) n c ∧ n ≤ c ∧ c ≤ maxLen ∧ ArrP w G off ps ∧ base ≤ G := by
  obtain ⟨hl, A, c, rfl, hc, hm, hA⟩ := h
  rcases hA with ⟨rfl, hz⟩ | ⟨g, cur, rfl, hb, hh, hcs, ht⟩
  · omega
  · refine ⟨g, 0, c, rfl, hc, hm, ⟨fun j u hu => ?_, (Array.getElem?_eq_some_iff.1 hh).1⟩, hb⟩
    have hj := (List.getElem?_eq_some_iff.1 hu).1
    have h1 : (cur.toList.take (n * 2))[j]? = some u := by rw [ht]; exact hu
    rw [List.getElem?_take_of_lt (by rw [← hl]; exact hj), Array.getElem?_toList] at h1
    refine ⟨?_, by simp [World.frozen?, hh]⟩
    rw [Nat.zero_add, cell_of_row w g j _ _ _ hh]
    exact h1
set_option maxRecDepth 100000 in
set_option maxHeartbeats 2000000 in
theorem clonePt_any (A : Option Addr) (n c B : Nat) (l : List Po) (w : World) (hl : l.length = n) (hn1 : 1 ≤ n) (hn : n ≤ c) (hc : c ≤ maxLen) (hb : n * 32 ≤ 140737488355328) (hB : B ≤ w.heap.size) (hr : RdPo w B A l) :
    Calls Tryz.prog 43 #[.slice A n c] w (fun en w' => ∃ (ps : List PoL) (G off c' : Nat), en = .returned (.slice (some ⟨G, off, none⟩) n c') ∧ ps.map (·.1) = l ∧ n ≤ c' ∧ c' ≤ maxLen ∧ ArrP w' G off ps ∧ w.heap.size ≤ G ∧ Fr No w w' ∧ ∀ p ∈ ps, p.1.2.length ≤ p.2.2 ∧ p.2.2 ≤ maxLen ∧ Rd w' B p.2.1 (iz .i64 p.1.2)) := by
  obtain ⟨ip, hip, hipz, hipsz, hipby⟩ := info_parts Tryz.infoBP
  obtain ⟨ps, h1, h2, h3⟩ := hr.ex
  have hpl : ps.length = n := by rw [← hl, ← h1, List.length_map]
  have h0 : ∃ ad, A = some ad := by
    obtain ⟨ad, _, _, e, _⟩ := hr.at (k := 0) (by rw [hl]; omega)
    exact ⟨ad, e⟩
  obtain ⟨ad, rfl⟩ := h0
  have HS := hide (Src.ofRd (P := Tryz.prog) (size := 2) (w.alloc (.cells #[] 46)) Tryz.underlying56 (some ad) n c (pFlat ps) (by rw [pFlat_len, hpl]) (by omega) (h2.fr0 ((Fr.refl _ _).alloc _)) (pFlat_one ps))
  have H1 := hide h1
  have H3 := hide h3
  have HPl := hide hpl
  have he := fun W => Lib.run_eql_slice_nil (P := Tryz.prog) W 56 46 (some ad) n c 0 0 Tryz.underlying56
  have b1 : (0 + n) * 32 ≤ 140737488355328 := by omega
  have b2 : 0 + n ≤ maxLen := by unfold maxLen; omega
  have b3 : w.heap.size ≤ (w.alloc (.cells #[] 46)).heap.size := by simp
  unfold maxLen at hc
  clear hr h1 h2 h3 hpl hl
  go_enter Tryz.func43, Tryz.ntmps43
  go_wp2_with (at_builtin; (refine wpList_append_gen _ rfl (.tmp 5) (.tmp 6) 56 56 rfl w.heap.size 46 ip (.agg #[.int .i64 0, .slice none 0 0]) 2 32 Tryz.underlying56 hip hipz hipsz hipby rfl _ 0 [] rfl (own_emptyP w 46) _ n (pFlat ps) rfl HS.out b1 b2 b3 ?_); intro v' w' hown hfr hat)
  have hf : Fr No w w' := ((Fr.refl No w).alloc _).own hfr (fun g h => .inl (Nat.le_of_eq (Option.some.inj h)))
  rw [Nat.zero_add, List.nil_append] at hown
  obtain ⟨G, off, c', rfl, z1, z2, harr, hG⟩ := arr_own hown hn1
  go_ret
  exact ⟨ps, G, off, c', rfl, H1.out, z1, z2, harr, hG, hf, fun p hp => ⟨(H3.out p hp).1, (H3.out p hp).2.1, (H3.out p hp).2.2.fr0 hf⟩⟩
theorem givesB_nil (w w' : World) (f : Fr No w w') : GivesB w [] (.returned (.slice none 0 0)) w' := ⟨_, rfl, Own.nil _ _ _ _, f⟩
set_option maxRecDepth 100000 in
set_option maxHeartbeats 4000000 in
theorem bbuild_any (A : Option Addr) (n c B : Nat) (dims : Int) (l : List Po) (w : World) (hl : l.length = n) (hn : n ≤ c) (hc : c ≤ maxLen) (hb : n * 32 ≤ 140737488355328) (hB : B ≤ w.heap.size) (hi : InI2 l) (hr : RdPo w B A l) :
    Calls Tryz.prog 26 #[.int .i64 dims, .slice A n c] w (GivesB w (keptP dims l)) := by
  have HL := hide hl
  have HR := hide hr
  have HI := hide hi
  have hc' := hc
  unfold maxLen at hc
  clear hr hl hi
  by_cases g1 : dims < 1
  · have HNo : Hid (keptP dims l = []) := hide (keptP_no (fun h => by have := h.1; omega))
    have d1 : decide (dims < 1) = true := decide_eq_true g1
    go_enter Tryz.func26, Tryz.ntmps26
    go_wp2
    go_ret
    rw [HNo.out]; exact givesB_nil _ _ (Fr.refl _ _)
  have d1 : decide (dims < 1) = false := decide_eq_false g1
  by_cases g2 : 4 < dims
  · have HNo : Hid (keptP dims l = []) := hide (keptP_no (fun h => by have := h.2.1; omega))
    have d2 : decide (4 < dims) = true := decide_eq_true g2
    go_enter Tryz.func26, Tryz.ntmps26
    go_wp2
    go_ret
    rw [HNo.out]; exact givesB_nil _ _ (Fr.refl _ _)
  have d2 : decide (4 < dims) = false := decide_eq_false g2
  by_cases g3 : 1048576 < n
  · have HNo : Hid (keptP dims l = []) := hide (keptP_no (fun h => by have := h.2.2.1; have := HL.out; omega))
    have d3 : decide (1048576 < n) = true := decide_eq_true g3
    have d4 : decide ((1048576 : Int) < (n : Int)) = true := decide_eq_true (by omega)
    go_enter Tryz.func26, Tryz.ntmps26
    go_wp2
    go_ret
    rw [HNo.out]; exact givesB_nil _ _ (Fr.refl _ _)
  have d3 : decide (1048576 < n) = false := decide_eq_false g3
  have d4 : decide ((1048576 : Int) < (n : Int)) = false := decide_eq_false (by omega)
  obtain ⟨dn, rfl⟩ : ∃ m : Nat, dims = (m : Int) := ⟨dims.toNat, by omega⟩
  have hdn1 : 1 ≤ dn := by omega
  have hdn4 : dn ≤ 4 := by omega
  have hn20 : n ≤ 1048576 := by omega
  obtain ⟨i5, hi5, hz5, hsz5, hby5⟩ := info_parts Tryz.info5
  clear g1 g2 g3
  go_enter Tryz.func26, Tryz.ntmps26
  go_wp2
  clear d1 d2 d3 d4
  go_loopw [6, 21] (fun _ i wr => ∃ k : Nat, k ≤ n ∧ i = .int .i64 (k : Nat) ∧ Hid (∀ p ∈ l.take k, (p.2.length : Int) = (dn : Int) ∧ 0 ≤ p.1 ∧ p.1 < 16384) ∧ Hid (Fr No w wr)) (fun _ i _ => n - (intOf i).toNat)
  case atStart => exact ⟨0, by omega, by go_num, hide (fun p hp => by rw [List.take_zero] at hp; cases hp), hide (Fr.refl _ _)⟩
  case round =>
    obtain ⟨wo, rfl⟩ : ∃ wo : World, wo = wr := ⟨_, rfl⟩
    obtain ⟨k, hk, rfl, HS, HF⟩ := hrel
    by_cases hlt : k < n
    · have hk1 : k < l.length := by rw [HL.out]; exact hlt
      obtain ⟨ad, A1, c1, rfl, _, k0, k1, e1, e2, hrk⟩ := (HR.out.fr0 HF.out).at hk1
      have hmem := getP_mem hk1
      have htk := take_snocP hk1
      obtain ⟨pk, hpke⟩ : ∃ x, x = l.getD k noPo := ⟨_, rfl⟩
      rw [← hpke] at k0 k1 e1 hmem htk
      obtain ⟨pl, hpl⟩ : ∃ x, x = pk.2.length := ⟨_, rfl⟩
      obtain ⟨pd, hpd⟩ : ∃ x, x = pk.1 := ⟨_, rfl⟩
      rw [← hpl] at k1 e1
      rw [← hpd] at k0
      have HMm := hide hmem
      have HTk := hide htk
      have HPl := hide hpl
      have HPd := hide hpd
      have HF2 := hide (HF.out.alloc (.cells #[.int .i64 pd, .slice A1 pl c1] 46))
      unfold maxLen at e2
      clear hk1 hmem htk hpke hpl hpd hrk
      by_cases h1 : pl = dn
      · subst h1
        have e3 : ((pl : Int) != (pl : Int)) = false := by simp
        by_cases h2 : pd < 0
        · have HNo : Hid (keptP ((pl : Nat) : Int) l = []) := hide (keptP_no (fun h => by have := (h.2.2.2 pk HMm.out).2.1; have := HPd.out; omega))
          have d5 : decide (pd < 0) = true := decide_eq_true h2
          go_wp2
          go_ret
          rw [HNo.out]; exact givesB_nil _ _ HF2.out
        · have d5 : decide (pd < 0) = false := decide_eq_false h2
          by_cases h3 : 16384 ≤ pd
          · have HNo : Hid (keptP ((pl : Nat) : Int) l = []) := hide (keptP_no (fun h => by have := (h.2.2.2 pk HMm.out).2.2; have := HPd.out; omega))
            have d6 : decide (16384 ≤ pd) = true := decide_eq_true h3
            go_wp2
            go_ret
            rw [HNo.out]; exact givesB_nil _ _ HF2.out
          · have d6 : decide (16384 ≤ pd) = false := decide_eq_false h3
            have HS' : Hid (∀ p ∈ l.take (k + 1), (p.2.length : Int) = (pl : Int) ∧ 0 ≤ p.1 ∧ p.1 < 16384) := hide (fun p hp => by
              rw [HTk.out] at hp
              rcases List.mem_append.1 hp with hp | hp
              · exact HS.out p hp
              · rw [List.mem_singleton.1 hp, ← HPl.out, ← HPd.out]; omega)
            go_wp2
            go_roundw
            case rel => exact ⟨k + 1, by omega, by go_num, HS', HF2⟩
            case measure => simp [intOf]; omega
      · have e3 : ((pl : Int) != (dn : Int)) = true := by simpa using (by omega : ¬ (pl : Int) = (dn : Int))
        have HNo : Hid (keptP ((dn : Nat) : Int) l = []) := hide (keptP_no (fun h => by have := (h.2.2.2 pk HMm.out).1; have := HPl.out; omega))
        clear h1
        go_wp2
        go_ret
        rw [HNo.out]; exact givesB_nil _ _ HF2.out
    · obtain rfl : k = n := by omega
      have hall : l.take k = l := List.take_of_length_le (by rw [HL.out]; exact Nat.le_refl _)
      rw [hall] at HS
      have HK : Hid (keptP ((dn : Nat) : Int) l = enc dn ++ enc k ++ treeP dn l) := hide (by rw [keptP_yes ⟨by omega, by omega, by rw [HL.out]; exact hn20, HS.out⟩, buildT, HL.out])
      have HP1 := hide (fun W => putU_any none 0 0 0 [] dn W rfl (Nat.le_refl _) (Nat.zero_le _) (by omega) (Nat.zero_le _) (fun j u hu => by simp [by8] at hu) (by omega))
      clear hall hlt
      obtain ⟨T, hT⟩ : ∃ T, T = treeP dn l := ⟨_, rfl⟩
      rw [← hT] at HK
      have HTe := hide hT
      clear hT
      by_cases hk0 : 0 < k
      · have d5 : decide (0 < k) = true := decide_eq_true hk0
        have d6 : decide ((0 : Int) < (k : Int)) = true := decide_eq_true (by omega)
        have HCl := hide (clonePt_any A k c B l wo HL.out (by omega) hn hc' hb (Nat.le_trans hB HF.out.size) (HR.out.fr0 HF.out))
        go_wp2_with (fail)
        refine HCl.out.mono ?_
        rintro en w1 ⟨ps, G, off, c2, rfl, hps, z1, z2, harr, hG, hf, hok⟩
        have HFo := hide (form_any dn B k ⟨G, off, none⟩ G off c2 ps w1 rfl ⟨by rw [← HL.out, ← hps, List.length_map], by omega, hn20, z1, z2, fun p hp => ⟨by have := (HS.out p.1 (by rw [← hps]; exact List.mem_map.2 ⟨p, hp, rfl⟩)).1; omega, hok p hp⟩, fun p hp => ⟨(HI.out p.1 (by rw [← hps]; exact List.mem_map.2 ⟨p, hp, rfl⟩)).1, (HS.out p.1 (by rw [← hps]; exact List.mem_map.2 ⟨p, hp, rfl⟩)).2⟩, harr, by have := HF.out.size; omega, ⟨hdn1, hdn4⟩⟩)
        rw [hps] at HFo
        have HF1 := hide (HF.out.tr hf)
        have HGw : Hid (w.heap.size ≤ G) := hide (Nat.le_trans HF.out.size hG)
        have htl := treeP_le dn k l HL.out (by omega) (fun p hp => by have := (HS.out p hp).1; omega)
        unfold maxLen at z2
        clear hps z1 harr hG hf hok HCl d5 d6
        go_wp2_with (fail)
        refine HFo.out.mono ?_
        rintro en w2 ⟨⟨vt, rfl, hown⟩, hfr, hap⟩
        rw [← HTe.out] at hown htl
        have hown2 := hown.lower HF1.out.size
        have HF2 : Hid (Fr No w w2) := hide (HF1.out.trans hfr (fun i hi e => by have e : i = G := e; have := HGw.out; omega))
        clear hown hfr hap HFo
        obtain ⟨tn, htn⟩ : ∃ x, x = T.length := ⟨_, rfl⟩
        rw [← htn] at hown2 htl
        obtain ⟨At, ct, rfl, t1, t2, _, t3, _⟩ := hown2.form
        have HT2 := hide hown2
        have HTn := hide htn
        unfold maxLen at t2
        clear hown2 htn t3
        go_wp2_with (fail)
        refine (HP1.out _).mono ?_
        rintro en w3 ⟨v3, rfl, hown, hfr⟩
        rw [List.nil_append] at hown
        obtain ⟨n3, hn3⟩ : ∃ x, x = (enc dn).length := ⟨_, rfl⟩
        have hn3b : n3 ≤ 10 := by rw [hn3]; exact (enc_len dn).2
        rw [← hn3] at hown
        obtain ⟨A3, c3, rfl, y1, y2, _, y3, _⟩ := hown.form
        have HP2 := hide (putU_any A3 n3 c3 w3.heap.size (enc dn) k w3 hn3.symm y1 y2 (by omega) (Nat.le_refl _) y3 (by omega))
        have HF3 := hide (HF2.out.tr hfr)
        have HT3 := hide (HT2.out.fr0 hfr)
        have HN3 := hide hn3
        unfold maxLen at y2
        clear hown hfr hn3 y3 HP1 HT2
        go_wp2_with (fail)
        refine HP2.out.mono ?_
        rintro en w4 ⟨v4, rfl, hown, hfr⟩
        obtain ⟨X, hX⟩ : ∃ X, X = enc dn ++ enc k := ⟨_, rfl⟩
        obtain ⟨n4, hn4⟩ : ∃ x, x = X.length := ⟨_, rfl⟩
        have hn4b : n4 ≤ 20 := by have := (enc_len k).2; rw [hn4, hX, List.length_append, ← HN3.out]; omega
        rw [← hX, ← hn4] at hown
        have HO4 := hide hown
        have HF4 := hide (HF3.out.tr hfr)
        have HT4 := hide (HT3.out.fr0 hfr)
        obtain ⟨_, _, eT, _, _, _, zT, _⟩ := HT4.out.form
        cases eT
        have HS4 := hide (Src.ofRd (P := Tryz.prog) (size := 1) w4 Tryz.underlying22 At tn ct (by8 T) (by rw [by8_length, ← HTn.out, Nat.mul_one]) (by omega) zT (by8_one _))
        have b1 : (n4 + tn) * 1 ≤ 140737488355328 := by omega
        have b2 : n4 + tn ≤ maxLen := by unfold maxLen; omega
        have hz4 := hfr.size
        have HX := hide hX
        have HN4 := hide hn4
        have hw3 := HF3.out.size
        clear hown hfr hX hn4 zT HP2 HT3
        go_wp2_with (at_builtin; refine wpList_append_gen _ rfl (.tmp 55) (.tmp 56) 22 22 rfl w3.heap.size 5 i5 (.int .u8 0) 1 1 Tryz.underlying22 hi5 hz5 hsz5 hby5 rfl v4 n4 (by8 X) rfl HO4.out _ tn (by8 T) rfl HS4.out b1 b2 hz4 ?_; intro v9 w9 hown hfr hat; have HO9 := hide hown; have HF9 : Hid (Fr No w w9) := hide (HF4.out.own hfr (fun g hg => .inl (Nat.le_trans hw3 (HO4.out.lt g hg).1))); clear hown hfr hat)
        go_ret
        refine ⟨v9, rfl, ?_, HF9.out⟩
        rw [HK.out, ← HX.out, by8_append, List.length_append, ← HN4.out, ← HTn.out]
        exact HO9.out.lower hw3
      · obtain rfl : k = 0 := by omega
        have hl0 : l = [] := List.eq_nil_of_length_eq_zero HL.out
        have hT0 : T = [0, 0] := by rw [HTe.out, hl0, treeP_leaf (by simp)]; simp [sortP, ptsB]; rfl
        have htl : T.length + 40 ≤ 110 * 1 := by rw [hT0]; simp
        have hown2 := own_new8 wo #[.int .u8 0, .int .u8 0] 2 T 5 (by rw [hT0]; rfl) (by rw [hT0]; rfl) (by decide)
        obtain ⟨w2, hw2⟩ : ∃ x, x = wo.alloc (.cells #[.int .u8 0, .int .u8 0] 5) := ⟨_, rfl⟩
        obtain ⟨g2, hg2⟩ : ∃ x, x = wo.heap.size := ⟨_, rfl⟩
        have HF2 : Hid (Fr No w w2) := hide (by rw [hw2]; exact HF.out.alloc _)
        rw [← hw2] at hown2
        have hown2 := hown2.lower HF.out.size
        rw [← hg2] at hown2
        have hTl2 : T.length = 2 := by rw [hT0]; rfl
        have HW2 := hide hw2
        have HG2 := hide hg2
        clear hl0 hT0 hw2 hg2 hk0
        go_upto_region 13 with (fail)
        rw [← HW2.out, ← HG2.out]
        have h2 : 2 = T.length := hTl2.symm
        have HT2 := hide hown2
        have HTn := hide h2
        clear hown2 h2 hTl2
        go_wp2_with (fail)
        refine (HP1.out _).mono ?_
        rintro en w3 ⟨v3, rfl, hown, hfr⟩
        rw [List.nil_append] at hown
        obtain ⟨n3, hn3⟩ : ∃ x, x = (enc dn).length := ⟨_, rfl⟩
        have hn3b : n3 ≤ 10 := by rw [hn3]; exact (enc_len dn).2
        rw [← hn3] at hown
        obtain ⟨A3, c3, rfl, y1, y2, _, y3, _⟩ := hown.form
        have HP2 := hide (putU_any A3 n3 c3 w3.heap.size (enc dn) 0 w3 hn3.symm y1 y2 (by omega) (Nat.le_refl _) y3 (by omega))
        have HF3 := hide (HF2.out.tr hfr)
        have HT3 := hide (HT2.out.fr0 hfr)
        have HN3 := hide hn3
        unfold maxLen at y2
        clear hown hfr hn3 y3 HP1 HT2
        go_wp2_with (fail)
        refine HP2.out.mono ?_
        rintro en w4 ⟨v4, rfl, hown, hfr⟩
        obtain ⟨X, hX⟩ : ∃ X, X = enc dn ++ enc 0 := ⟨_, rfl⟩
        obtain ⟨n4, hn4⟩ : ∃ x, x = X.length := ⟨_, rfl⟩
        have hn4b : n4 ≤ 20 := by have := (enc_len 0).2; rw [hn4, hX, List.length_append, ← HN3.out]; omega
        rw [← hX, ← hn4] at hown
        have HO4 := hide hown
        have HF4 := hide (HF3.out.tr hfr)
        have HT4 := hide (HT3.out.fr0 hfr)
        have zT := HT4.out.rd
        have hle4 := HT4.out.le
        have HS4 := hide (Src.ofRd (P := Tryz.prog) (size := 1) w4 Tryz.underlying22 (some ⟨g2, 0, none⟩) 2 2 (by8 T) (by rw [by8_length, ← HTn.out, Nat.mul_one]) (by omega) zT (by8_one _))
        have b1 : (n4 + 2) * 1 ≤ 140737488355328 := by omega
        have b2 : n4 + 2 ≤ maxLen := by unfold maxLen; omega
        have hz4 := hfr.size
        have HX := hide hX
        have HN4 := hide hn4
        have hw3 := HF3.out.size
        clear hown hfr hX hn4 zT HP2 HT3
        go_wp2_with (at_builtin; refine wpList_append_gen _ rfl (.tmp 55) (.tmp 56) 22 22 rfl w3.heap.size 5 i5 (.int .u8 0) 1 1 Tryz.underlying22 hi5 hz5 hsz5 hby5 rfl v4 n4 (by8 X) rfl HO4.out _ 2 (by8 T) rfl HS4.out b1 b2 hz4 ?_; intro v9 w9 hown hfr hat; have HO9 := hide hown; have HF9 : Hid (Fr No w w9) := hide (HF4.out.own hfr (fun g hg => .inl (Nat.le_trans hw3 (HO4.out.lt g hg).1))); clear hown hfr hat)
        go_ret
        refine ⟨v9, rfl, ?_, HF9.out⟩
        rw [HK.out, ← HX.out, by8_append, List.length_append, ← HN4.out, ← HTn.out]
        exact HO9.out.lower hw3
end Go.Proofs.YtpopbkcbplmcaaaGreat
namespace Go.Proofs.YtpopbkcbplmcaaaGreat
set_option linter.unusedVariables false
set_option linter.unusedSimpArgs false
open Go.RowKit

set_option maxRecDepth 100000 in
set_option maxHeartbeats 400000 in
theorem turned_any (n : Int) (w : World) (h1 : -9223372036854775808 ≤ n) (h2 : n ≤ 9223372036854775807) :
    Calls Tryz.prog 75 #[.int .i64 n] w (Ret (.int .u64 (zz n)) w) := by
  by_cases h0 : 0 ≤ n
  · have HZ := hide (show (zz n : Int) = IntKind.u64.wrap (2 * IntKind.u64.wrap n) by
      unfold zz
      rw [if_pos h0, IntWalk.u64_in n (by omega), IntWalk.u64_in _ (by omega)]
      omega)
    go_enter Tryz.func75, Tryz.ntmps75
    go_wp2
    go_ret
    exact ⟨by rw [HZ.out]; first | rfl | (simp [IntKind.wrap_u64]; omega), rfl⟩
  · have HZ := hide (show (zz n : Int) = -2 * n - 1 by
      unfold zz
      rw [if_neg h0]
      omega)
    go_enter Tryz.func75, Tryz.ntmps75
    go_wp2
    go_ret
    exact ⟨by rw [HZ.out]; congr 2; simp [IntKind.wrap_u64]; omega, rfl⟩

end Go.Proofs.YtpopbkcbplmcaaaGreat
namespace Go.Proofs.YtpopbkcbplmcaaaGreat
end Go.Proofs.YtpopbkcbplmcaaaGreat
namespace Go.Proofs.YtpopbkcbplmcaaaGreat
set_option linter.unusedVariables false
set_option linter.unusedSimpArgs false
open Go.RowKit

/-- points that may stand in a tree. -/
def OkL (dims : Nat) (l : List Po) : Prop := ∀ p ∈ l, p.2.length = dims ∧ InI p.2 ∧ 0 ≤ p.1 ∧ p.1 < 16384
set_option maxRecDepth 100000 in
set_option maxHeartbeats 4000000 in
theorem tree_leaf (dims : Nat) (hdm : 1 ≤ dims ∧ dims ≤ 4) (n : Nat) (A : Option Addr) (c B : Nat) (l : List Po) (w : World) (hl : l.length = n) (h8 : n ≤ 8) (hn : n ≤ c) (hc : c ≤ maxLen) (hB : B ≤ w.heap.size) (hd : OkL dims l) (hr : RdPo w B A l) :
    Calls Tryz.prog 50 #[.int .i64 (dims : Nat), .slice A n c] w (GivesB w (treeP dims l)) := by
  obtain ⟨i5, hi5, hz5, hsz5, hby5⟩ := info_parts Tryz.info5
  have HT : Hid (treeP dims l = (0 : UInt8) :: (enc n ++ ptsB (sortP 0 l))) := hide (by rw [treeP_leaf (by rw [hl]; exact h8), hl])
  have HSo := hide (fun W (f : Fr No w W) => sorted_any 0 dims (by omega) n A c B l W hl (by omega) hn hc (Nat.le_trans hB f.size) (fun p hp => (hd p hp).1) (hr.fr0 f))
  have HD : Hid (OkL dims (sortP 0 l)) := hide (fun p hp => hd p (sortP_mem.1 hp))
  have HSl : Hid ((sortP 0 l).length = n) := hide (by rw [sortP_len, hl])
  have HUu := hide (fun (u : Nat) (hu : u < 18446744073709551616) W => refUint_any u W hu)
  have HUn := hide (HUu.out n (by omega))
  obtain ⟨en0, hen⟩ : ∃ x, x = (enc n).length := ⟨_, rfl⟩
  have he10 := (enc_len n).2
  rw [← hen] at he10
  have HEn := hide hen
  have HO0 := hide (own_new8 w #[.int .u8 0] 1 [0] 5 rfl rfl (by decide))
  have HF0 : Hid (Fr No w (w.alloc (.cells #[.int .u8 0] 5))) := hide ((Fr.refl No w).alloc _)
  have b1 : (1 + en0) * 1 ≤ 140737488355328 := by omega
  have b2 : 1 + en0 ≤ maxLen := by unfold maxLen; omega
  have HBw := hide hB
  unfold maxLen at hc
  clear hl hd hr hen hB
  go_enter Tryz.func50, Tryz.ntmps50
  go_wp2_with (first
    | (go_at_call 49; refine (HUn.out _).mono ?_; rintro en w2 ⟨vu, rfl, hown, hfr⟩; rw [← HEn.out] at hown; obtain ⟨Au, cu, rfl, p1, p2, _, p3, _⟩ := hown.form; have HS2 := hide (Src.ofRd (P := Tryz.prog) (size := 1) w2 Tryz.underlying22 Au en0 cu (by8 (enc n)) (by rw [by8_length, ← HEn.out, Nat.mul_one]) (by omega) p3 (by8_one _)); have HO2 := hide (HO0.out.fr0 hfr); have HF2 : Hid (Fr No w w2) := hide (HF0.out.tr hfr); have hz2 : w.heap.size ≤ w2.heap.size := HF2.out.size; unfold maxLen at p2; clear hown hfr p3)
    | (at_builtin; refine wpList_append_gen _ rfl (.tmp 19) (.tmp 23) 22 22 rfl w.heap.size 5 i5 (.int .u8 0) 1 1 Tryz.underlying22 hi5 hz5 hsz5 hby5 rfl (.slice (some ⟨w.heap.size, 0, none⟩) 1 1) 1 (by8 [0]) rfl HO2.out _ en0 (by8 (enc n)) rfl HS2.out b1 b2 hz2 ?_; intro v3 w3 hown hfr hat; have HO3 := hide hown; have HF3 : Hid (Fr No w w3) := hide (HF2.out.own hfr (fun g hg => .inl ( (HO2.out.lt g hg).1))); clear hown hfr hat))
  refine (HSo.out w3 HF3.out).mono ?_
  rintro en w4 ⟨A4, c4, rfl, x1, x2, hrd, hf⟩
  obtain ⟨s, hs⟩ : ∃ s, s = sortP 0 l := ⟨_, rfl⟩
  rw [← hs] at hrd HD HSl HT
  have HR4 := hide hrd
  have HF4 := hide (HF3.out.tr hf)
  have HO4 := hide (HO3.out.fr0 hf)
  unfold maxLen at x2
  clear hs hrd hf HSo HO3 HF3
  go_wp2_with (fail)
  go_loopw [5, 7, 8] (fun vb i _ wr => ∃ (k bn : Nat), k ≤ n ∧ i = .int .i64 (k : Nat) ∧ bn ≤ 11 + 50 * k ∧ Hid (Fr No w wr) ∧ Hid (RdS wr B A4 s) ∧ Hid (bn = ((0 : UInt8) :: (enc n ++ ptsB (s.take k))).length) ∧ Hid (Own wr w.heap.size 5 1 vb bn (by8 ((0 : UInt8) :: (enc n ++ ptsB (s.take k)))))) (fun _ i _ _ => n - (intOf i).toNat)
  case atStart => exact ⟨0, 1 + en0, by omega, by go_num, by omega, HF4, HR4, hide (by simp [ptsB, HEn.out]; omega), hide (by simpa [ptsB, by8] using HO4.out)⟩
  case round =>
    clear HO4 HF4 HR4
    obtain ⟨wo, rfl⟩ : ∃ wo : World, wo = wr := ⟨_, rfl⟩
    obtain ⟨k, bn, hk, rfl, hbn, HFk, HRk, HBn, HOk⟩ := hrel
    by_cases hlk : k < n
    · have hk1 : k < s.length := by rw [HSl.out]; exact hlk
      obtain ⟨ad, A1, c1, rfl, _, k0', k1', g1, g2, hrk⟩ := HRk.out.at hk1
      have hpk := HD.out _ (getP_mem hk1)
      have htk := take_snocP hk1
      obtain ⟨pk, hpke⟩ : ∃ x, x = s.getD k noPo := ⟨_, rfl⟩
      rw [← hpke] at k0' k1' g1 hrk hpk htk
      rw [hpk.1] at k1' g1
      obtain ⟨dn, hdn⟩ : ∃ m : Nat, pk.1 = (m : Int) := ⟨pk.1.toNat, by omega⟩
      rw [hdn] at k0' hpk
      have k0 := k0'
      have hdn16 : dn < 16384 := by omega
      have HDn := hide hdn
      have HPk := hide hpk
      have HTk := hide htk
      have HUd := hide (HUu.out dn (by omega))
      obtain ⟨ed, hed⟩ : ∃ x, x = (enc dn).length := ⟨_, rfl⟩
      have hed10 := (enc_len dn).2
      rw [← hed] at hed10
      have HEd := hide hed
      obtain ⟨X, hX⟩ : ∃ X, X = (0 : UInt8) :: (enc n ++ ptsB (s.take k)) := ⟨_, rfl⟩
      rw [← hX] at HBn HOk
      have HX := hide hX
      obtain ⟨at_, hat_⟩ : ∃ x, x = pk.2 := ⟨_, rfl⟩
      rw [← hat_] at HPk
      have HAt := hide hat_
      have b1 : (bn + ed) * 1 ≤ 140737488355328 := by omega
      have b2 : bn + ed ≤ maxLen := by unfold maxLen; omega
      unfold maxLen at g2
      have HK1 := hide hk1
      have HPe := hide hpke
      clear hk1 hpk htk hpke hrk hdn hed hX hat_ k0' k1'
      go_wp2_with (first
        | (go_at_call 49; refine (HUd.out _).mono ?_; rintro en w6 ⟨vu, rfl, hown, hfr⟩; rw [← HEd.out] at hown; obtain ⟨Au, cu, rfl, p1, p2, _, p3, _⟩ := hown.form; have HS6 := hide (Src.ofRd (P := Tryz.prog) (size := 1) w6 Tryz.underlying22 Au ed cu (by8 (enc dn)) (by rw [by8_length, ← HEd.out, Nat.mul_one]) (by omega) p3 (by8_one _)); have HO6 := hide (HOk.out.fr0 hfr); have HF6 : Hid (Fr No w w6) := hide (HFk.out.tr hfr); have hz6 : w.heap.size ≤ w6.heap.size := HF6.out.size; unfold maxLen at p2; have HR6 := hide (HRk.out.fr0 hfr); clear hown hfr p3)
        | (at_builtin; refine wpList_append_gen _ rfl (.tmp 33) (.tmp 40) 22 22 rfl w.heap.size 5 i5 (.int .u8 0) 1 1 Tryz.underlying22 hi5 hz5 hsz5 hby5 rfl u5 bn (by8 X) rfl HO6.out _ ed (by8 (enc dn)) rfl HS6.out b1 b2 hz6 ?_; intro v7 w7 hown hfr hat; have HO7 := hide hown; have HF7 : Hid (Fr No w w7) := hide (HF6.out.own hfr (fun g hg => .inl ( (HO6.out.lt g hg).1))); have HR7 := hide (HR6.out.off hfr (fun k hk e => by have := (HO6.out.lt k e).1; have := HBw.out; omega) (off_own HO6.out (by decide))); clear hown hfr hat))
      go_loopw [5, 8] (fun vb i wr => ∃ (q bm : Nat), q ≤ dims ∧ i = .int .i64 (q : Nat) ∧ bm ≤ bn + ed + 10 * q ∧ Hid (Fr No w wr) ∧ Hid (RdS wr B (some ad) s) ∧ Hid (bm = (X ++ enc dn ++ zzs (at_.take q)).length) ∧ Hid (Own wr w.heap.size 5 1 vb bm (by8 (X ++ enc dn ++ zzs (at_.take q))))) (fun _ i _ => dims - (intOf i).toNat)
      case atStart => exact ⟨0, bn + ed, by omega, by go_num, by omega, HF7, HR7, hide (by rw [List.take_zero]; simp [zzs, ← HBn.out, HEd.out]), hide (by rw [List.take_zero]; have h := HO7.out; rw [← by8_append] at h; simpa [zzs] using h)⟩
      case round =>
        clear HO7 HF7 HR7
        obtain ⟨wx, rfl⟩ : ∃ wo : World, wo = wr := ⟨_, rfl⟩
        obtain ⟨q, bm, hq, rfl, hbm, HFq, HRq, HBm, HOq⟩ := hrel
        by_cases hlq : q < dims
        · have hq1 : q < at_.length := by rw [HPk.out.1]; exact hlq
          obtain ⟨ad', A1', c1', eA, _, _, k1, g1, g2, hrk⟩ := HRq.out.at HK1.out
          cases eA
          rw [← HPe.out, ← HAt.out, HPk.out.1] at k1 g1
          rw [← HPe.out, ← HAt.out] at hrk
          obtain ⟨ad1, rfl, _, hx⟩ := cellInt hrk hq1
          unfold maxLen at g2
          have hxI := HPk.out.2.1 (at_.getD q 0) (by rw [List.getD, List.getElem?_eq_getElem hq1]; exact List.getElem_mem hq1)
          have htq : at_.take (q + 1) = at_.take q ++ [at_.getD q 0] := take_1 hq1
          obtain ⟨x, hxe⟩ : ∃ x, x = at_.getD q 0 := ⟨_, rfl⟩
          rw [← hxe] at hx hxI htq
          have HTq := hide htq
          have HTu := hide (fun W => turned_any x W hxI.1 hxI.2)
          obtain ⟨z, hz⟩ : ∃ z, z = zz x := ⟨_, rfl⟩
          have hzl : z < 18446744073709551616 := by rw [hz]; exact zz_lt hxI.1 hxI.2
          rw [← hz] at HTu
          have HZ := hide hz
          have HUz := hide (HUu.out z hzl)
          obtain ⟨ez, hez⟩ : ∃ y, y = (enc z).length := ⟨_, rfl⟩
          have hez10 := (enc_len z).2
          rw [← hez] at hez10
          have HEz := hide hez
          have b1 : (bm + ez) * 1 ≤ 140737488355328 := by omega
          have b2 : bm + ez ≤ maxLen := by unfold maxLen; omega
          obtain ⟨Y, hY⟩ : ∃ Y, Y = X ++ enc dn ++ zzs (at_.take q) := ⟨_, rfl⟩
          rw [← hY] at HBm HOq
          have HY := hide hY
          clear hq1 htq hxe hez hY hz hzl hxI hrk
          go_wp2_with (first
            | (go_at_call 75; refine (HTu.out _).mono ?_; rintro en wz ⟨rfl, rfl⟩)
            | (go_at_call 49; refine (HUz.out _).mono ?_; rintro en w8 ⟨vu, rfl, hown, hfr⟩; rw [← HEz.out] at hown; obtain ⟨Au, cu, rfl, p1, p2, _, p3, _⟩ := hown.form; have HS8 := hide (Src.ofRd (P := Tryz.prog) (size := 1) w8 Tryz.underlying22 Au ez cu (by8 (enc z)) (by rw [by8_length, ← HEz.out, Nat.mul_one]) (by omega) p3 (by8_one _)); have HO8 := hide (HOq.out.fr0 hfr); have HF8 : Hid (Fr No w w8) := hide (HFq.out.tr hfr); have hz8 : w.heap.size ≤ w8.heap.size := HF8.out.size; unfold maxLen at p2; have HR8 := hide (HRq.out.fr0 hfr); clear hown hfr p3)
            | (at_builtin; refine wpList_append_gen _ rfl (.tmp 47) (.tmp 57) 22 22 rfl w.heap.size 5 i5 (.int .u8 0) 1 1 Tryz.underlying22 hi5 hz5 hsz5 hby5 rfl u5 bm (by8 Y) rfl HO8.out _ ez (by8 (enc z)) rfl HS8.out b1 b2 hz8 ?_; intro v9 w9 hown hfr hat; have HO9 := hide hown; have HF9 : Hid (Fr No w w9) := hide (HF8.out.own hfr (fun g hg => .inl ( (HO8.out.lt g hg).1))); have HR9 := hide (HR8.out.off hfr (fun k hk e => by have := (HO8.out.lt k e).1; have := HBw.out; omega) (off_own HO8.out (by decide))); clear hown hfr hat))
          go_roundw
          case rel =>
            have hY1 : X ++ enc dn ++ zzs (at_.take (q + 1)) = Y ++ enc z := by rw [HTq.out, zzs_snoc, HY.out, HZ.out, List.append_assoc (X ++ enc dn)]
            refine ⟨q + 1, bm + ez, by omega, by go_num, by omega, HF9, HR9, hide ?_, hide ?_⟩
            · rw [hY1, List.length_append, ← HBm.out, ← HEz.out]
            · rw [hY1, by8_append]; exact HO9.out
          case measure => simp [intOf]; omega
        · obtain rfl : q = dims := by omega
          have hall : at_.take q = at_ := List.take_of_length_le (by rw [HPk.out.1]; exact Nat.le_refl _)
          rw [hall] at HBm HOq
          have hE : X ++ enc dn ++ zzs at_ = (0 : UInt8) :: (enc n ++ ptsB (s.take (k + 1))) := by
            rw [HTk.out, ptsB_snoc, HX.out, ptB, HDn.out, Int.toNat_natCast, HAt.out]
            simp [zzs]
          rw [hE] at HBm HOq
          clear hall hE hlq
          go_wp2_with (fail)
          go_roundw
          case rel => exact ⟨k + 1, bm, by omega, by go_num, by omega, HFq, HRq, HBm, HOq⟩
          case measure => simp [intOf]; omega
    · obtain rfl : k = n := by omega
      have hall : s.take k = s := List.take_of_length_le (by rw [HSl.out]; exact Nat.le_refl _)
      rw [hall] at HBn HOk
      clear hall hlk
      go_wp2_with (fail)
      go_ret
      refine ⟨u5, rfl, ?_, HFk.out⟩
      rw [HT.out, ← HBn.out]; exact HOk.out
end Go.Proofs.YtpopbkcbplmcaaaGreat
