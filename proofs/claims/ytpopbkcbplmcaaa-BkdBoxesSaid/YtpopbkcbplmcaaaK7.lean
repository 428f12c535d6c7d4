/- Several texts in one: BkEc, BkEd, BkEf, BkEg, BkSp, BkRf. -/
import Derived.Test.YtpopbkcbplmcaaaK6
import Derived.Deep.RegionHeld3
import Derived.Lib.SlicesCompact
import Derived.Deep.LoopGhost
import Derived.BigQuiet
namespace Go.Proofs.Ytpopbkcbplmcaaa
set_option linter.unusedVariables false
set_option linter.unusedSimpArgs false
open Go.RowKit

/-- a node is gone through. -/
def DownC (base b5 b6 b7 b8 : Nat) (F : FuncId) (g0 : Nat) (Al Ah : Option Addr) (m cl ch : Nat) (low high : List Int) (I : List Pt → World → Prop) (t : TreeT) : Prop :=
  ∀ (gx : Nat) (W : World) (l0 : List Pt), EB W base b5 b6 b7 b8 F g0 Al Ah m cl ch low high → TreeM W (fun k => k < base) t gx → OkT m t → I l0 W → l0.length + (flatT t).length ≤ 1048576 →
    Calls Try.prog 58 #[.pointer (some ⟨gx, 0, none⟩), .pointer (some ⟨b5, 0, none⟩), .pointer (some ⟨b6, 0, none⟩), .pointer (some ⟨b7, 0, none⟩), .pointer (some ⟨b8, 0, none⟩)] W (TellP base b5 b6 b7 b8 F g0 Al Ah m cl ch low high I (l0 ++ eachT low high t) W)
set_option maxRecDepth 100000 in
set_option maxHeartbeats 8000000 in
theorem down_cut (base b5 b6 b7 b8 : Nat) (F : FuncId) (g0 : Nat) (Al Ah : Option Addr) (m cl ch : Nat) (low high : List Int) (I : List Pt → World → Prop) (hd : DoC base F g0 I) (hl1 : low.length = m) (hl2 : high.length = m) (hm4 : m ≤ 4) (hcl : m ≤ cl) (hch : m ≤ ch) (d : Nat) (c : Int) (a b : TreeT) (ha : DownC base b5 b6 b7 b8 F g0 Al Ah m cl ch low high I a) (hb : DownC base b5 b6 b7 b8 F g0 Al Ah m cl ch low high I b) : DownC base b5 b6 b7 b8 F g0 Al Ah m cl ch low high I (.cut d c a b) := by
  intro gx W l0 he ht hok hI hn
  obtain ⟨hgx, ga, gb, hx, hta, htb⟩ := ht
  obtain ⟨hdm, hoa, hob⟩ := hok
  rw [flatT, List.length_append] at hn
  have hea := eachT_len low high a
  have HN := hide hn
  have HEa := hide hea
  have HI := hide hI
  have HE := hide he
  have HA := hide ha
  have HB := hide hb
  have HOa := hide hoa
  have HOb := hide hob
  have HTa := hide hta
  have HTb := hide htb
  have HX := hide hx
  have HGx := hide hgx
  have HD := hide hd
  obtain ⟨adl, rfl, _, hxl⟩ := cellInt HE.out.lo (k := d) (by rw [hl1]; exact hdm)
  obtain ⟨adh, rfl, _, hxh⟩ := cellInt HE.out.hi (k := d) (by rw [hl2]; exact hdm)
  obtain ⟨y, hy⟩ : ∃ x, x = low.getD d 0 := ⟨_, rfl⟩
  obtain ⟨z, hz⟩ : ∃ x, x = high.getD d 0 := ⟨_, rfl⟩
  rw [← hy] at hxl
  rw [← hz] at hxh
  have HY := hide hy
  have HZ := hide hz
  have HL1 := hide hl1
  have HL2 := hide hl2
  have k1 : W.cell? ⟨gx, 1, none⟩ = some (.int .i64 (d : Nat)) := cell_of_row W _ 1 _ _ _ hx
  have k2 : W.cell? ⟨gx, 2, none⟩ = some (.int .i64 c) := cell_of_row W _ 2 _ _ _ hx
  have k3 : W.cell? ⟨gx, 3, none⟩ = some (.pointer (some ⟨ga, 0, none⟩)) := cell_of_row W _ 3 _ _ _ hx
  have k5 : W.cell? ⟨b5, 0, none⟩ = some (.slice (some adl) m cl) := cell_of_row W _ 0 _ _ _ he.e5
  have HFW := hide (Fr.refl (DoS base W) W)
  have HEW := HE
  have HIW := HI
  have HXW := HX
  clear hn hea hI he ha hb hoa hob hta htb hx hgx hd hy hz hxh hl1 hl2 HE HI HX
  go_enter Try.func58, Try.ntmps58
  by_cases hyc : y ≤ c
  · have HYc := hide hyc
    go_upto_region 11 with (fail)
    go_quiet (fail)
    obtain ⟨wa, hwa⟩ : ∃ x, x = W.drewN nq := ⟨_, rfl⟩
    rw [← hwa]
    have fwa : Fr No W wa := by rw [hwa]; exact (Fr.refl No W).drewN nq
    have HEwa := hide (HEW.out.fr0 fwa)
    have HIwa := hide (HD.out.up _ _ _ HIW.out fwa)
    have HFwa := hide (HFW.out.tr fwa)
    have HXwa := hide (fwa.blk HXW.out (fun h => h))
    clear hwa fwa HEW HIW HFW HXW
    clear k1 k2 k3 k5 hxl hyc
    have HEd := hide (HEwa.out.fr0 (Fr.refl No wa).drew)
    have HId := hide (HD.out.up _ _ _ HIwa.out (Fr.refl No wa).drew)
    have HTd := hide (TreeM.dos HTa.out HFwa.out.drew)
    have HCd := hide (HA.out ga wa.drew _ HEd.out HTd.out HOa.out HId.out (by have := HN.out; omega))
    have kd : wa.drew.cell? ⟨b8, 0, none⟩ = some (.func (.func 58) #[] #[.pointer (some ⟨b5, 0, none⟩), .pointer (some ⟨b6, 0, none⟩), .pointer (some ⟨b7, 0, none⟩), .pointer (some ⟨b8, 0, none⟩)]) := cell_of_row _ _ 0 _ _ _ HEd.out.e8
    have kg : wa.drew.cell? ⟨gx, 3, none⟩ = some (.pointer (some ⟨ga, 0, none⟩)) := cell_of_row wa _ 3 _ _ _ HXwa.out
    clear HEd HId HTd
    go_upto_region 12 with (fail)
    go_region_held3 (fun W => W.cell? ⟨b8, 0, none⟩ = some (.func (.func 58) #[] #[.pointer (some ⟨b5, 0, none⟩), .pointer (some ⟨b6, 0, none⟩), .pointer (some ⟨b7, 0, none⟩), .pointer (some ⟨b8, 0, none⟩)]) ∧ W.cell? ⟨gx, 3, none⟩ = some (.pointer (some ⟨ga, 0, none⟩))) (first | exact HKwb.out | exact ⟨kd, kg⟩) (first
      | (go_at_call 58; refine HCd.out.mono ?_; rintro en wb ⟨⟨⟨rwb, rfl⟩, f, hi⟩, he⟩; have f' := Fr.dos0 (Fr.refl No wa).drew f; have HFwb := hide (HFwa.out.dos f'); have HIwb := hide hi; have HEwb := hide he; have HXwb := hide (f'.blk HXwa.out (dos_low HGx.out)); have HKwb : Hid (wb.cell? ⟨b8, 0, none⟩ = some (.func (.func 58) #[] #[.pointer (some ⟨b5, 0, none⟩), .pointer (some ⟨b6, 0, none⟩), .pointer (some ⟨b7, 0, none⟩), .pointer (some ⟨b8, 0, none⟩)]) ∧ wb.cell? ⟨gx, 3, none⟩ = some (.pointer (some ⟨ga, 0, none⟩))) := hide (And.intro (cell_of_row wb _ 0 _ _ _ HEwb.out.e8) (cell_of_row wb _ 3 _ _ _ HXwb.out)); clear f f' hi he))
    clear kd kg HCd HEwa HIwa HFwa HXwa
    have k6 : wb.cell? ⟨b6, 0, none⟩ = some (.slice (some adh) m ch) := cell_of_row wb _ 0 _ _ _ HEwb.out.e6
    have k1 : wb.cell? ⟨gx, 1, none⟩ = some (.int .i64 (d : Nat)) := cell_of_row wb _ 1 _ _ _ HXwb.out
    have k2 : wb.cell? ⟨gx, 2, none⟩ = some (.int .i64 c) := cell_of_row wb _ 2 _ _ _ HXwb.out
    obtain ⟨adh', e', _, hxh⟩ := cellInt HEwb.out.hi (k := d) (by rw [HL2.out]; exact hdm)
    cases e'
    rw [← HZ.out] at hxh
    by_cases hzc : c ≤ z
    · have HZc := hide hzc
      go_upto_region 13 with (fail)
      go_quiet (fail)
      obtain ⟨wbq, hwbq⟩ : ∃ x, x = wb.drewN nq := ⟨_, rfl⟩
      rw [← hwbq]
      have fwbq : Fr No wb wbq := by rw [hwbq]; exact (Fr.refl No wb).drewN nq
      have HEwbq := hide (HEwb.out.fr0 fwbq)
      have HIwbq := hide (HD.out.up _ _ _ HIwb.out fwbq)
      have HFwbq := hide (HFwb.out.tr fwbq)
      have HXwbq := hide (fwbq.blk HXwb.out (fun h => h))
      clear hwbq fwbq HEwb HIwb HFwb HXwb
      clear k6 k1 k2 hxh hzc
      have HEd := hide (HEwbq.out.fr0 (Fr.refl No wbq).drew)
      have HId := hide (HD.out.up _ _ _ HIwbq.out (Fr.refl No wbq).drew)
      have HTd := hide (TreeM.dos HTb.out HFwbq.out.drew)
      have HCd := hide (HB.out gb wbq.drew _ HEd.out HTd.out HOb.out HId.out (by have := HN.out; have := HEa.out; rw [List.length_append]; omega))
      have kd : wbq.drew.cell? ⟨b8, 0, none⟩ = some (.func (.func 58) #[] #[.pointer (some ⟨b5, 0, none⟩), .pointer (some ⟨b6, 0, none⟩), .pointer (some ⟨b7, 0, none⟩), .pointer (some ⟨b8, 0, none⟩)]) := cell_of_row _ _ 0 _ _ _ HEd.out.e8
      have kg : wbq.drew.cell? ⟨gx, 4, none⟩ = some (.pointer (some ⟨gb, 0, none⟩)) := cell_of_row wbq _ 4 _ _ _ HXwbq.out
      clear HEd HId HTd
      go_upto_region 14 with (fail)
      go_region_held3 (fun W => W.cell? ⟨b8, 0, none⟩ = some (.func (.func 58) #[] #[.pointer (some ⟨b5, 0, none⟩), .pointer (some ⟨b6, 0, none⟩), .pointer (some ⟨b7, 0, none⟩), .pointer (some ⟨b8, 0, none⟩)]) ∧ W.cell? ⟨gx, 4, none⟩ = some (.pointer (some ⟨gb, 0, none⟩))) (first | exact HKwbr.out | exact ⟨kd, kg⟩) (first
        | (go_at_call 58; refine HCd.out.mono ?_; rintro en wbr ⟨⟨⟨rwbr, rfl⟩, f, hi⟩, he⟩; have f' := Fr.dos0 (Fr.refl No wbq).drew f; have HFwbr := hide (HFwbq.out.dos f'); have HIwbr := hide hi; have HEwbr := hide he; have HXwbr := hide (f'.blk HXwbq.out (dos_low HGx.out)); have HKwbr : Hid (wbr.cell? ⟨b8, 0, none⟩ = some (.func (.func 58) #[] #[.pointer (some ⟨b5, 0, none⟩), .pointer (some ⟨b6, 0, none⟩), .pointer (some ⟨b7, 0, none⟩), .pointer (some ⟨b8, 0, none⟩)]) ∧ wbr.cell? ⟨gx, 4, none⟩ = some (.pointer (some ⟨gb, 0, none⟩))) := hide (And.intro (cell_of_row wbr _ 0 _ _ _ HEwbr.out.e8) (cell_of_row wbr _ 4 _ _ _ HXwbr.out)); clear f f' hi he))
      clear kd kg HCd HEwbq HIwbq HFwbq HXwbq
      go_end0
      have e : l0 ++ eachT low high (.cut d c a b) = (l0 ++ eachT low high a) ++ eachT low high b := by rw [eachT, ← HY.out, ← HZ.out, if_pos HYc.out, if_pos HZc.out, List.append_assoc]
      rw [e]
      exact ⟨⟨⟨_, rfl⟩, HFwbr.out, HIwbr.out⟩, HEwbr.out⟩
    · have HZc := hide hzc
      go_upto_region 13 with (fail)
      go_quiet (fail)
      obtain ⟨wbq, hwbq⟩ : ∃ x, x = wb.drewN nq := ⟨_, rfl⟩
      rw [← hwbq]
      have fwbq : Fr No wb wbq := by rw [hwbq]; exact (Fr.refl No wb).drewN nq
      have HEwbq := hide (HEwb.out.fr0 fwbq)
      have HIwbq := hide (HD.out.up _ _ _ HIwb.out fwbq)
      have HFwbq := hide (HFwb.out.tr fwbq)
      have HXwbq := hide (fwbq.blk HXwb.out (fun h => h))
      clear hwbq fwbq HEwb HIwb HFwb HXwb
      clear k6 k1 k2 hxh hzc
      go_wp2_with (fail)
      go_end0
      have e : l0 ++ eachT low high (.cut d c a b) = l0 ++ eachT low high a := by rw [eachT, ← HY.out, ← HZ.out, if_pos HYc.out, if_neg (Int.not_le.2 HZc.out), List.append_nil]
      rw [e]
      exact ⟨⟨⟨_, rfl⟩, HFwbq.out, HIwbq.out⟩, HEwbq.out⟩
  · have HYc := hide hyc
    go_upto_region 11 with (fail)
    go_quiet (fail)
    obtain ⟨wa, hwa⟩ : ∃ x, x = W.drewN nq := ⟨_, rfl⟩
    rw [← hwa]
    have fwa : Fr No W wa := by rw [hwa]; exact (Fr.refl No W).drewN nq
    have HEwa := hide (HEW.out.fr0 fwa)
    have HIwa := hide (HD.out.up _ _ _ HIW.out fwa)
    have HFwa := hide (HFW.out.tr fwa)
    have HXwa := hide (fwa.blk HXW.out (fun h => h))
    clear hwa fwa HEW HIW HFW HXW
    clear k1 k2 k3 k5 hxl hyc
    have k6 : wa.cell? ⟨b6, 0, none⟩ = some (.slice (some adh) m ch) := cell_of_row wa _ 0 _ _ _ HEwa.out.e6
    have k1 : wa.cell? ⟨gx, 1, none⟩ = some (.int .i64 (d : Nat)) := cell_of_row wa _ 1 _ _ _ HXwa.out
    have k2 : wa.cell? ⟨gx, 2, none⟩ = some (.int .i64 c) := cell_of_row wa _ 2 _ _ _ HXwa.out
    obtain ⟨adh', e', _, hxh⟩ := cellInt HEwa.out.hi (k := d) (by rw [HL2.out]; exact hdm)
    cases e'
    rw [← HZ.out] at hxh
    by_cases hzc : c ≤ z
    · have HZc := hide hzc
      go_upto_region 13 with (fail)
      go_quiet (fail)
      obtain ⟨waq, hwaq⟩ : ∃ x, x = wa.drewN nq := ⟨_, rfl⟩
      rw [← hwaq]
      have fwaq : Fr No wa waq := by rw [hwaq]; exact (Fr.refl No wa).drewN nq
      have HEwaq := hide (HEwa.out.fr0 fwaq)
      have HIwaq := hide (HD.out.up _ _ _ HIwa.out fwaq)
      have HFwaq := hide (HFwa.out.tr fwaq)
      have HXwaq := hide (fwaq.blk HXwa.out (fun h => h))
      clear hwaq fwaq HEwa HIwa HFwa HXwa
      clear k6 k1 k2 hxh hzc
      have HEd := hide (HEwaq.out.fr0 (Fr.refl No waq).drew)
      have HId := hide (HD.out.up _ _ _ HIwaq.out (Fr.refl No waq).drew)
      have HTd := hide (TreeM.dos HTb.out HFwaq.out.drew)
      have HCd := hide (HB.out gb waq.drew _ HEd.out HTd.out HOb.out HId.out (by have := HN.out; have := HEa.out; omega))
      have kd : waq.drew.cell? ⟨b8, 0, none⟩ = some (.func (.func 58) #[] #[.pointer (some ⟨b5, 0, none⟩), .pointer (some ⟨b6, 0, none⟩), .pointer (some ⟨b7, 0, none⟩), .pointer (some ⟨b8, 0, none⟩)]) := cell_of_row _ _ 0 _ _ _ HEd.out.e8
      have kg : waq.drew.cell? ⟨gx, 4, none⟩ = some (.pointer (some ⟨gb, 0, none⟩)) := cell_of_row waq _ 4 _ _ _ HXwaq.out
      clear HEd HId HTd
      go_upto_region 14 with (fail)
      go_region_held3 (fun W => W.cell? ⟨b8, 0, none⟩ = some (.func (.func 58) #[] #[.pointer (some ⟨b5, 0, none⟩), .pointer (some ⟨b6, 0, none⟩), .pointer (some ⟨b7, 0, none⟩), .pointer (some ⟨b8, 0, none⟩)]) ∧ W.cell? ⟨gx, 4, none⟩ = some (.pointer (some ⟨gb, 0, none⟩))) (first | exact HKwar.out | exact ⟨kd, kg⟩) (first
        | (go_at_call 58; refine HCd.out.mono ?_; rintro en war ⟨⟨⟨rwar, rfl⟩, f, hi⟩, he⟩; have f' := Fr.dos0 (Fr.refl No waq).drew f; have HFwar := hide (HFwaq.out.dos f'); have HIwar := hide hi; have HEwar := hide he; have HXwar := hide (f'.blk HXwaq.out (dos_low HGx.out)); have HKwar : Hid (war.cell? ⟨b8, 0, none⟩ = some (.func (.func 58) #[] #[.pointer (some ⟨b5, 0, none⟩), .pointer (some ⟨b6, 0, none⟩), .pointer (some ⟨b7, 0, none⟩), .pointer (some ⟨b8, 0, none⟩)]) ∧ war.cell? ⟨gx, 4, none⟩ = some (.pointer (some ⟨gb, 0, none⟩))) := hide (And.intro (cell_of_row war _ 0 _ _ _ HEwar.out.e8) (cell_of_row war _ 4 _ _ _ HXwar.out)); clear f f' hi he))
      clear kd kg HCd HEwaq HIwaq HFwaq HXwaq
      go_end0
      have e : l0 ++ eachT low high (.cut d c a b) = l0 ++ eachT low high b := by rw [eachT, ← HY.out, ← HZ.out, if_neg (Int.not_le.2 HYc.out), if_pos HZc.out, List.nil_append]
      rw [e]
      exact ⟨⟨⟨_, rfl⟩, HFwar.out, HIwar.out⟩, HEwar.out⟩
    · have HZc := hide hzc
      go_upto_region 13 with (fail)
      go_quiet (fail)
      obtain ⟨waq, hwaq⟩ : ∃ x, x = wa.drewN nq := ⟨_, rfl⟩
      rw [← hwaq]
      have fwaq : Fr No wa waq := by rw [hwaq]; exact (Fr.refl No wa).drewN nq
      have HEwaq := hide (HEwa.out.fr0 fwaq)
      have HIwaq := hide (HD.out.up _ _ _ HIwa.out fwaq)
      have HFwaq := hide (HFwa.out.tr fwaq)
      have HXwaq := hide (fwaq.blk HXwa.out (fun h => h))
      clear hwaq fwaq HEwa HIwa HFwa HXwa
      clear k6 k1 k2 hxh hzc
      go_wp2_with (fail)
      go_end0
      have e : l0 ++ eachT low high (.cut d c a b) = l0 := by rw [eachT, ← HY.out, ← HZ.out, if_neg (Int.not_le.2 HYc.out), if_neg (Int.not_le.2 HZc.out), List.append_nil, List.append_nil]
      rw [e]
      exact ⟨⟨⟨_, rfl⟩, HFwaq.out, HIwaq.out⟩, HEwaq.out⟩
end Go.Proofs.Ytpopbkcbplmcaaa
namespace Go.Proofs.Ytpopbkcbplmcaaa
set_option linter.unusedVariables false
set_option linter.unusedSimpArgs false
open Go.RowKit

theorem down_any (base b5 b6 b7 b8 : Nat) (F : FuncId) (g0 : Nat) (Al Ah : Option Addr) (m cl ch : Nat) (low high : List Int) (I : List Pt → World → Prop) (hd : DoC base F g0 I) (hl1 : low.length = m) (hl2 : high.length = m) (hm4 : m ≤ 4) (hcl : m ≤ cl) (hch : m ≤ ch) : ∀ t : TreeT, DownC base b5 b6 b7 b8 F g0 Al Ah m cl ch low high I t := by
  intro t
  induction t with
  | leaf l => exact fun gx W l0 he ht hok hI hn => down_leaf base b5 b6 b7 b8 F g0 Al Ah m cl ch low high I hd hl1 hl2 hm4 hcl hch (fun _ h => h) l gx W l0 he ht hok hI hn
  | cut d c a b ha hb => exact down_cut base b5 b6 b7 b8 F g0 Al Ah m cl ch low high I hd hl1 hl2 hm4 hcl hch d c a b ha hb
set_option maxRecDepth 100000 in
set_option maxHeartbeats 4000000 in
theorem each_in (base : Nat) (F : FuncId) (g0 : Nat) (Al Ah : Option Addr) (m cl ch : Nat) (low high : List Int) (I : List Pt → World → Prop) (hd : DoC base F g0 I) (hl1 : low.length = m) (hl2 : high.length = m) (hm4 : m ≤ 4) (hcl : m ≤ cl) (hch : m ≤ ch) (hc1 : cl ≤ maxLen) (hc2 : ch ≤ maxLen) (gT gn n : Nat) (vlo vhi : Value) (t : TreeT) (W : World) (l0 : List Pt) (hb : base ≤ W.heap.size)
    (hT : W.heap[gT]? = some (.cells #[.int .i64 (m : Nat), .int .i64 (n : Nat), .pointer (some ⟨gn, 0, none⟩), vlo, vhi] 76 (0, 0))) (hgT : gT < base) (ht : TreeM W (fun k => k < base) t gn) (hok : OkT m t) (hI : I l0 W) (hn : l0.length + (flatT t).length ≤ 1048576) (hr1 : Rd W base Al (iz .i64 low)) (hr2 : Rd W base Ah (iz .i64 high)) :
    Calls Try.prog 39 #[.pointer (some ⟨gT, 0, none⟩), .slice Al m cl, .slice Ah m ch, .func (.func F) #[] #[.pointer (some ⟨g0, 0, none⟩)]] W (Told base I (l0 ++ eachT low high t) W) := by
  have HI := hide hI
  have HD := hide hd
  have HT := hide hT
  have HTr := hide ht
  have HOk := hide hok
  have HN := hide hn
  have HR1 := hide hr1
  have HR2 := hide hr2
  have HGT := hide hgT
  have HBs := hide hb
  have HL1 := hide hl1
  have HL2 := hide hl2
  have k0 : W.cell? ⟨gT, 0, none⟩ = some (.int .i64 (m : Nat)) := cell_of_row W _ 0 _ _ _ hT
  unfold maxLen at hc1 hc2
  have hmf : ∀ (fn : Fn) (first cap : Array Value) (w : World), (Instr.makeFunc fn first cap).run Try.prog w = .ok (.func fn first cap) w := fun _ _ _ _ => rfl
  have hsf := fun (a : Addr) (c : Array Value) (w : World) => run_store Try.prog w a (.func (.func 58) #[] c) .plain rfl
  have hbn : ((m : Int) != (m : Int)) = false := by simp
  clear hI hd hT ht hok hn hr1 hr2 hgT hb hl1 hl2
  go_enter Try.func39, Try.ntmps39
  refine wp_named fun K hK => ?_
  go_upto_region 1 with (fail)
  obtain ⟨W1, hW1⟩ : ∃ x, x = ((W.alloc (.cells #[.slice Al m cl] 23)).alloc (.cells #[.slice Ah m ch] 23)).alloc (.cells #[.func (.func F) #[] #[.pointer (some ⟨g0, 0, none⟩)]] 81) := ⟨_, rfl⟩
  obtain ⟨b5, hb5⟩ : ∃ x, x = W.heap.size := ⟨_, rfl⟩
  rw [← hW1, ← hb5]
  have f1 : Fr No W W1 := by rw [hW1]; exact (((Fr.refl No W).alloc _).alloc _).alloc _
  have hz1 : W1.heap.size = b5 + 3 := by rw [hW1, hb5]; simp
  have e5 : W1.heap[b5]? = some (.cells #[.slice Al m cl] 23 (0, 0)) := by rw [hW1, hb5]; exact (((Fr.refl No _).alloc _).alloc _).blk (heap_alloc_new W _) (fun h => h)
  have e6 : W1.heap[b5 + 1]? = some (.cells #[.slice Ah m ch] 23 (0, 0)) := by
    have h := ((Fr.refl No _).alloc (.cells #[.func (.func F) #[] #[.pointer (some ⟨g0, 0, none⟩)]] 81)).blk (heap_alloc_new (W.alloc (.cells #[.slice Al m cl] 23)) (.cells #[.slice Ah m ch] 23)) (fun h => h)
    rw [hW1, hb5]; simpa using h
  have e7 : W1.heap[b5 + 1 + 1]? = some (.cells #[.func (.func F) #[] #[.pointer (some ⟨g0, 0, none⟩)]] 81 (0, 0)) := by
    have h := heap_alloc_new ((W.alloc (.cells #[.slice Al m cl] 23)).alloc (.cells #[.slice Ah m ch] 23)) (.cells #[.func (.func F) #[] #[.pointer (some ⟨g0, 0, none⟩)]] 81)
    rw [hW1, hb5]; simpa using h
  have k5 : W1.cell? ⟨b5, 0, none⟩ = some (.slice Al m cl) := cell_of_row W1 _ 0 _ _ _ e5
  have k6 : W1.cell? ⟨b5 + 1, 0, none⟩ = some (.slice Ah m ch) := cell_of_row W1 _ 0 _ _ _ e6
  have k0' : W1.cell? ⟨gT, 0, none⟩ = some (.int .i64 (m : Nat)) := f1.cell k0 (fun h => h)
  have HE5 := hide e5
  have HE6 := hide e6
  have HE7 := hide e7
  have HF1 := hide f1
  have HZ1 := hide hz1
  have HB5 := hide hb5
  clear k0 e5 e6 e7 f1 hz1 hb5 hW1
  go_quiet (fail)
  obtain ⟨W2, hW2⟩ : ∃ x, x = W1.drewN nq := ⟨_, rfl⟩
  rw [← hW2]
  have f2 : Fr No W1 W2 := by rw [hW2]; exact (Fr.refl No W1).drewN nq
  have hz2 : W2.heap.size = b5 + 3 := by rw [hW2]; exact HZ1.out
  have HF2 := hide f2
  have HZ2 := hide hz2
  clear hW2 f2 hz2 k5 k6 k0'
  go_upto_region 3 with (fail)
  obtain ⟨W3, hW3⟩ : ∃ x, x = W2.alloc (.cells #[.nilFunc] 103) := ⟨_, rfl⟩
  have f3 : Fr No W2 W3 := by rw [hW3]; exact (Fr.refl No W2).alloc _
  have e8 : W3.heap[W2.heap.size]? = some (.cells #[.nilFunc] 103 (0, 0)) := by rw [hW3]; exact heap_alloc_new W2 _
  obtain ⟨b8, hb8⟩ : ∃ x, x = W2.heap.size := ⟨_, rfl⟩
  rw [← hW3, ← hb8]
  rw [← hb8] at e8
  have k8 : W3.cell? ⟨b8, 0, none⟩ = some .nilFunc := cell_of_row W3 _ 0 _ _ _ e8
  have z8 : W3.frozen? ⟨b8, 0, none⟩ = false := frozen_of_row W3 _ 0 _ _ e8
  have HF3 := hide f3
  have HE8 := hide e8
  have HB8 := hide hb8
  clear hW3 f3 e8 hb8
  go_upto_region 4 with (fail)
  obtain ⟨W4, hW4⟩ : ∃ x, x = W3.setCell ⟨b8, 0, none⟩ (.func (.func 58) #[] #[.pointer (some ⟨b5, 0, none⟩), .pointer (some ⟨b5 + 1, 0, none⟩), .pointer (some ⟨b5 + 1 + 1, 0, none⟩), .pointer (some ⟨b8, 0, none⟩)]) := ⟨_, rfl⟩
  rw [← hW4]
  have hlt3 : b8 = b5 + 3 := by rw [HB8.out]; exact HZ2.out
  have f4 : Fr (Is b8) W3 W4 := by rw [hW4]; exact (Fr.refl (Is b8) W3).setCell (p := ⟨b8, 0, none⟩) (fun _ => rfl) _
  have hF3 : Fr No W W3 := (HF1.out.tr HF2.out).tr HF3.out
  have hF4 : Fr No W W4 := hF3.trans f4 (fun i hi e => by have e : i = b8 := e; have := HB5.out; omega)
  have e8 : W4.heap[b8]? = some (.cells #[(.func (.func 58) #[] #[.pointer (some ⟨b5, 0, none⟩), .pointer (some ⟨b5 + 1, 0, none⟩), .pointer (some ⟨b5 + 1 + 1, 0, none⟩), .pointer (some ⟨b8, 0, none⟩)])] 103 (0, 0)) := by
    rw [hW4]; simp [World.setCell, Array.getElem?_modify, HE8.out, Array.set!]
  have g5 : Fr No W1 W4 := (HF2.out.tr HF3.out).trans f4 (fun i hi e => by have e : i = b8 := e; have := HZ1.out; omega)
  have hEB : EB W4.drew base b5 (b5 + 1) (b5 + 1 + 1) b8 F g0 Al Ah m cl ch low high := ⟨g5.blk HE5.out (fun h => h), g5.blk HE6.out (fun h => h), g5.blk HE7.out (fun h => h), e8, HR1.out.fr0 hF4.drew, HR2.out.fr0 hF4.drew⟩
  have hc := down_any base b5 (b5 + 1) (b5 + 1 + 1) b8 F g0 Al Ah m cl ch low high I HD.out HL1.out HL2.out hm4 hcl hch t gn W4.drew l0 hEB (TreeM.fr hF4.drew (fun _ _ h => h) HTr.out) HOk.out (HD.out.up _ _ _ HI.out hF4.drew) HN.out
  have HC := hide hc
  have kd : W4.drew.cell? ⟨b8, 0, none⟩ = some (.func (.func 58) #[] #[.pointer (some ⟨b5, 0, none⟩), .pointer (some ⟨b5 + 1, 0, none⟩), .pointer (some ⟨b5 + 1 + 1, 0, none⟩), .pointer (some ⟨b8, 0, none⟩)]) := cell_of_row W4.drew _ 0 _ _ _ e8
  have kg : W4.drew.cell? ⟨gT, 2, none⟩ = some (.pointer (some ⟨gn, 0, none⟩)) := cell_of_row W4.drew _ 2 _ _ _ (hF4.drew.blk HT.out (fun h => h))
  have HF4 := hide hF4
  clear hW4 hlt3 f4 hF3 hF4 e8 g5 hEB hc k8 z8
  go_region_held3 (fun W => W.cell? ⟨b8, 0, none⟩ = some (.func (.func 58) #[] #[.pointer (some ⟨b5, 0, none⟩), .pointer (some ⟨b5 + 1, 0, none⟩), .pointer (some ⟨b5 + 1 + 1, 0, none⟩), .pointer (some ⟨b8, 0, none⟩)]) ∧ W.cell? ⟨gT, 2, none⟩ = some (.pointer (some ⟨gn, 0, none⟩))) (first | exact HK1.out | exact ⟨kd, kg⟩) (first
    | (go_at_call 58; refine HC.out.mono ?_; rintro en w1 ⟨⟨⟨r1, rfl⟩, f, hi⟩, he⟩; have f' := Fr.dos0 HF4.out.drew f; have HFn := hide f'; have HIn := hide hi; have HK1 : Hid (w1.cell? ⟨b8, 0, none⟩ = some (.func (.func 58) #[] #[.pointer (some ⟨b5, 0, none⟩), .pointer (some ⟨b5 + 1, 0, none⟩), .pointer (some ⟨b5 + 1 + 1, 0, none⟩), .pointer (some ⟨b8, 0, none⟩)]) ∧ w1.cell? ⟨gT, 2, none⟩ = some (.pointer (some ⟨gn, 0, none⟩))) := hide (And.intro (cell_of_row w1 _ 0 _ _ _ he.e8) (cell_of_row w1 _ 2 _ _ _ (f'.blk HT.out (dos_low HGT.out)))); clear f f' hi he))
  clear kd kg HC
  refine hK _ _ ?_
  go_end0
  exact ⟨⟨_, rfl⟩, HFn.out, HIn.out⟩
set_option maxRecDepth 100000 in
set_option maxHeartbeats 2000000 in
theorem each_nil (F : FuncId) (g0 : Nat) (Al Ah : Option Addr) (n1 n2 cl ch : Nat) (W : World) :
    Calls Try.prog 39 #[.pointer none, .slice Al n1 cl, .slice Ah n2 ch, .func (.func F) #[] #[.pointer (some ⟨g0, 0, none⟩)]] W (fun en W' => (∃ r, en = .returned r) ∧ Fr No W W') := by
  go_enter Try.func39, Try.ntmps39
  refine wp_named fun K hK => ?_
  go_upto_region 1 with (fail)
  obtain ⟨W1, hW1⟩ : ∃ x, x = ((W.alloc (.cells #[.slice Al n1 cl] 23)).alloc (.cells #[.slice Ah n2 ch] 23)).alloc (.cells #[.func (.func F) #[] #[.pointer (some ⟨g0, 0, none⟩)]] 81) := ⟨_, rfl⟩
  obtain ⟨b5, hb5⟩ : ∃ x, x = W.heap.size := ⟨_, rfl⟩
  rw [← hW1, ← hb5]
  have f1 : Fr No W W1 := by rw [hW1]; exact (((Fr.refl No W).alloc _).alloc _).alloc _
  have hz1 : W1.heap.size = b5 + 3 := by rw [hW1, hb5]; simp
  have e5 : W1.heap[b5]? = some (.cells #[.slice Al n1 cl] 23 (0, 0)) := by rw [hW1, hb5]; exact (((Fr.refl No _).alloc _).alloc _).blk (heap_alloc_new W _) (fun h => h)
  have e6 : W1.heap[b5 + 1]? = some (.cells #[.slice Ah n2 ch] 23 (0, 0)) := by
    have h := ((Fr.refl No _).alloc (.cells #[.func (.func F) #[] #[.pointer (some ⟨g0, 0, none⟩)]] 81)).blk (heap_alloc_new (W.alloc (.cells #[.slice Al n1 cl] 23)) (.cells #[.slice Ah n2 ch] 23)) (fun h => h)
    rw [hW1, hb5]; simpa using h
  have e7 : W1.heap[b5 + 1 + 1]? = some (.cells #[.func (.func F) #[] #[.pointer (some ⟨g0, 0, none⟩)]] 81 (0, 0)) := by
    have h := heap_alloc_new ((W.alloc (.cells #[.slice Al n1 cl] 23)).alloc (.cells #[.slice Ah n2 ch] 23)) (.cells #[.func (.func F) #[] #[.pointer (some ⟨g0, 0, none⟩)]] 81)
    rw [hW1, hb5]; simpa using h
  have k5 : W1.cell? ⟨b5, 0, none⟩ = some (.slice Al n1 cl) := cell_of_row W1 _ 0 _ _ _ e5
  have k6 : W1.cell? ⟨b5 + 1, 0, none⟩ = some (.slice Ah n2 ch) := cell_of_row W1 _ 0 _ _ _ e6
  have HF1 := hide f1
  clear e5 e6 e7 f1 hz1 hb5 hW1
  go_quiet (fail)
  go_wp2_with (fail)
  (try simp only [Exit.inBlock, Exit.then])
  refine bodyPost_ret (results_none rfl _ _ _) rfl ?_
  exact ⟨⟨_, rfl⟩, HF1.out.drewN _⟩
set_option maxRecDepth 100000 in
set_option maxHeartbeats 2000000 in
theorem each_low (F : FuncId) (g0 : Nat) (Al Ah : Option Addr) (n1 n2 cl ch : Nat) (W : World) (gT m : Nat) (k0 : W.cell? ⟨gT, 0, none⟩ = some (.int .i64 (m : Nat))) (hne : n1 ≠ m) :
    Calls Try.prog 39 #[.pointer (some ⟨gT, 0, none⟩), .slice Al n1 cl, .slice Ah n2 ch, .func (.func F) #[] #[.pointer (some ⟨g0, 0, none⟩)]] W (fun en W' => (∃ r, en = .returned r) ∧ Fr No W W') := by
  have hbn : ((n1 : Int) != (m : Int)) = true := by simp only [bne_iff_ne, ne_eq]; omega
  clear hne
  go_enter Try.func39, Try.ntmps39
  refine wp_named fun K hK => ?_
  go_upto_region 1 with (fail)
  obtain ⟨W1, hW1⟩ : ∃ x, x = ((W.alloc (.cells #[.slice Al n1 cl] 23)).alloc (.cells #[.slice Ah n2 ch] 23)).alloc (.cells #[.func (.func F) #[] #[.pointer (some ⟨g0, 0, none⟩)]] 81) := ⟨_, rfl⟩
  obtain ⟨b5, hb5⟩ : ∃ x, x = W.heap.size := ⟨_, rfl⟩
  rw [← hW1, ← hb5]
  have f1 : Fr No W W1 := by rw [hW1]; exact (((Fr.refl No W).alloc _).alloc _).alloc _
  have hz1 : W1.heap.size = b5 + 3 := by rw [hW1, hb5]; simp
  have e5 : W1.heap[b5]? = some (.cells #[.slice Al n1 cl] 23 (0, 0)) := by rw [hW1, hb5]; exact (((Fr.refl No _).alloc _).alloc _).blk (heap_alloc_new W _) (fun h => h)
  have e6 : W1.heap[b5 + 1]? = some (.cells #[.slice Ah n2 ch] 23 (0, 0)) := by
    have h := ((Fr.refl No _).alloc (.cells #[.func (.func F) #[] #[.pointer (some ⟨g0, 0, none⟩)]] 81)).blk (heap_alloc_new (W.alloc (.cells #[.slice Al n1 cl] 23)) (.cells #[.slice Ah n2 ch] 23)) (fun h => h)
    rw [hW1, hb5]; simpa using h
  have e7 : W1.heap[b5 + 1 + 1]? = some (.cells #[.func (.func F) #[] #[.pointer (some ⟨g0, 0, none⟩)]] 81 (0, 0)) := by
    have h := heap_alloc_new ((W.alloc (.cells #[.slice Al n1 cl] 23)).alloc (.cells #[.slice Ah n2 ch] 23)) (.cells #[.func (.func F) #[] #[.pointer (some ⟨g0, 0, none⟩)]] 81)
    rw [hW1, hb5]; simpa using h
  have k5 : W1.cell? ⟨b5, 0, none⟩ = some (.slice Al n1 cl) := cell_of_row W1 _ 0 _ _ _ e5
  have k6 : W1.cell? ⟨b5 + 1, 0, none⟩ = some (.slice Ah n2 ch) := cell_of_row W1 _ 0 _ _ _ e6
  have k0' : W1.cell? ⟨gT, 0, none⟩ = some (.int .i64 (m : Nat)) := f1.cell k0 (fun h => h)
  have HF1 := hide f1
  clear k0 e5 e6 e7 f1 hz1 hb5 hW1
  go_quiet (fail)
  go_wp2_with (fail)
  (try simp only [Exit.inBlock, Exit.then])
  refine bodyPost_ret (results_none rfl _ _ _) rfl ?_
  exact ⟨⟨_, rfl⟩, HF1.out.drewN _⟩
set_option maxRecDepth 100000 in
set_option maxHeartbeats 2000000 in
theorem each_high (F : FuncId) (g0 : Nat) (Al Ah : Option Addr) (n1 n2 cl ch : Nat) (W : World) (gT m : Nat) (k0 : W.cell? ⟨gT, 0, none⟩ = some (.int .i64 (m : Nat))) (hne : n2 ≠ n1) (he : n1 = m) :
    Calls Try.prog 39 #[.pointer (some ⟨gT, 0, none⟩), .slice Al n1 cl, .slice Ah n2 ch, .func (.func F) #[] #[.pointer (some ⟨g0, 0, none⟩)]] W (fun en W' => (∃ r, en = .returned r) ∧ Fr No W W') := by
  subst he
  have hbn : ((n1 : Int) != (n1 : Int)) = false := by simp
  have hbn2 : ((n2 : Int) != (n1 : Int)) = true := by simp only [bne_iff_ne, ne_eq]; omega
  clear hne
  go_enter Try.func39, Try.ntmps39
  refine wp_named fun K hK => ?_
  go_upto_region 1 with (fail)
  obtain ⟨W1, hW1⟩ : ∃ x, x = ((W.alloc (.cells #[.slice Al n1 cl] 23)).alloc (.cells #[.slice Ah n2 ch] 23)).alloc (.cells #[.func (.func F) #[] #[.pointer (some ⟨g0, 0, none⟩)]] 81) := ⟨_, rfl⟩
  obtain ⟨b5, hb5⟩ : ∃ x, x = W.heap.size := ⟨_, rfl⟩
  rw [← hW1, ← hb5]
  have f1 : Fr No W W1 := by rw [hW1]; exact (((Fr.refl No W).alloc _).alloc _).alloc _
  have hz1 : W1.heap.size = b5 + 3 := by rw [hW1, hb5]; simp
  have e5 : W1.heap[b5]? = some (.cells #[.slice Al n1 cl] 23 (0, 0)) := by rw [hW1, hb5]; exact (((Fr.refl No _).alloc _).alloc _).blk (heap_alloc_new W _) (fun h => h)
  have e6 : W1.heap[b5 + 1]? = some (.cells #[.slice Ah n2 ch] 23 (0, 0)) := by
    have h := ((Fr.refl No _).alloc (.cells #[.func (.func F) #[] #[.pointer (some ⟨g0, 0, none⟩)]] 81)).blk (heap_alloc_new (W.alloc (.cells #[.slice Al n1 cl] 23)) (.cells #[.slice Ah n2 ch] 23)) (fun h => h)
    rw [hW1, hb5]; simpa using h
  have e7 : W1.heap[b5 + 1 + 1]? = some (.cells #[.func (.func F) #[] #[.pointer (some ⟨g0, 0, none⟩)]] 81 (0, 0)) := by
    have h := heap_alloc_new ((W.alloc (.cells #[.slice Al n1 cl] 23)).alloc (.cells #[.slice Ah n2 ch] 23)) (.cells #[.func (.func F) #[] #[.pointer (some ⟨g0, 0, none⟩)]] 81)
    rw [hW1, hb5]; simpa using h
  have k5 : W1.cell? ⟨b5, 0, none⟩ = some (.slice Al n1 cl) := cell_of_row W1 _ 0 _ _ _ e5
  have k6 : W1.cell? ⟨b5 + 1, 0, none⟩ = some (.slice Ah n2 ch) := cell_of_row W1 _ 0 _ _ _ e6
  have k0' : W1.cell? ⟨gT, 0, none⟩ = some (.int .i64 (n1 : Nat)) := f1.cell k0 (fun h => h)
  have HF1 := hide f1
  clear k0 e5 e6 e7 f1 hz1 hb5 hW1
  go_quiet (fail)
  go_wp2_with (fail)
  (try simp only [Exit.inBlock, Exit.then])
  refine bodyPost_ret (results_none rfl _ _ _) rfl ?_
  exact ⟨⟨_, rfl⟩, HF1.out.drewN _⟩
end Go.Proofs.Ytpopbkcbplmcaaa
namespace Go.Proofs.Ytpopbkcbplmcaaa
set_option linter.unusedVariables false
set_option linter.unusedSimpArgs false
open Go.RowKit

/-- how many were told. -/
def CntI (g0 : Nat) (l : List Pt) (W : World) : Prop := W.heap[g0]? = some (.cells #[.int .i64 (l.length : Nat)] 3 (0, 0))
set_option maxRecDepth 100000 in
set_option maxHeartbeats 1000000 in
theorem cnt_call (base g0 : Nat) (hg : base ≤ g0) : DoC base 40 g0 (CntI g0) := by
  refine ⟨.inl rfl, fun l W W' h f => f.blk h (fun h => h), fun l p A c W h hl => ?_⟩
  unfold CntI at h
  have f1 : Fr No W (W.alloc (.cells #[.int .i64 p.1, .slice A p.2.length c] 44)) := (Fr.refl No W).alloc _
  have h1 := f1.blk h (fun h => h)
  obtain ⟨W1, hW1⟩ : ∃ x, x = W.alloc (.cells #[.int .i64 p.1, .slice A p.2.length c] 44) := ⟨_, rfl⟩
  rw [← hW1] at f1 h1
  have k1 : W1.cell? ⟨g0, 0, none⟩ = some (.int .i64 (l.length : Nat)) := cell_of_row W1 _ 0 _ _ _ h1
  have z1 : W1.frozen? ⟨g0, 0, none⟩ = false := frozen_of_row W1 _ 0 _ _ h1
  have HF1 := hide f1
  have HH := hide h
  have HH1 := hide h1
  have HW1 := hide hW1
  obtain ⟨n, hn⟩ : ∃ n, n = l.length := ⟨_, rfl⟩
  have HN := hide hn
  rw [← hn] at k1 hl
  obtain ⟨pn, hpn⟩ : ∃ n, n = p.2.length := ⟨_, rfl⟩
  have HPn := hide hpn
  rw [← hpn] at HW1 ⊢
  clear h f1 h1 hW1 hn hpn
  go_enter Try.func40, Try.ntmps40
  go_upto_region 1 with (fail)
  rw [← HW1.out]
  clear HW1
  go_wp2_with (fail)
  go_end0
  have f2 : Fr (DoS base W) W (W1.setCell ⟨g0, 0, none⟩ (.int .i64 ((n : Int) + 1))) := (HF1.out.any (DoS base W)).setCell (p := ⟨g0, 0, none⟩) (fun _ => ⟨hg, _, _, _, HH.out, .inl rfl⟩) _
  refine ⟨⟨_, rfl⟩, f2, ?_⟩
  unfold CntI
  rw [List.length_append, List.length_singleton, ← HN.out]
  have := HH1.out
  simp [World.setCell, Array.getElem?_modify, this, Array.set!]
theorem Try.infoRI : (Try.prog.info? 3).map (fun i => (i.zero, i.size, i.bytes)) = some (some (.int .i64 0), 1, 8) := by kernel_rfl
/-- the documents that were told. -/
def RngI (g0 : Nat) (l : List Pt) (W : World) : Prop := ∃ v, W.heap[g0]? = some (.cells #[v] 40 (0, 0)) ∧ Own W g0 3 1 v l.length (iz .i64 (l.map (·.1)))
set_option maxRecDepth 100000 in
set_option maxHeartbeats 2000000 in
theorem rng_call (base g0 : Nat) (hg : base ≤ g0) : DoC base 41 g0 (RngI g0) := by
  refine ⟨.inr rfl, fun l W W' ⟨v, h, o⟩ f => ⟨v, f.blk h (fun h => h), o.fr0 f⟩, fun l p A c W h hl => ?_⟩
  obtain ⟨v, h, o⟩ := h
  obtain ⟨d, P⟩ := p
  dsimp only
  obtain ⟨Av, cv, rfl, hv1, hv2, _⟩ := o.form
  obtain ⟨n, hn⟩ : ∃ n, n = l.length := ⟨_, rfl⟩
  have HN := hide hn
  rw [← hn] at h o hl hv1
  obtain ⟨pn, hpn⟩ : ∃ n, n = P.length := ⟨_, rfl⟩
  rw [← hpn]
  have f1 : Fr No W (W.alloc (.cells #[.int .i64 d, .slice A pn c] 44)) := (Fr.refl No W).alloc _
  have hp1 := heap_alloc_new W (.cells #[.int .i64 d, .slice A pn c] 44)
  obtain ⟨W1, hW1⟩ : ∃ x, x = W.alloc (.cells #[.int .i64 d, .slice A pn c] 44) := ⟨_, rfl⟩
  rw [← hW1] at f1 hp1
  have h1 := f1.blk h (fun h => h)
  have k1 : W1.cell? ⟨g0, 0, none⟩ = some (.slice Av n cv) := cell_of_row W1 _ 0 _ _ _ h1
  have z1 : W1.frozen? ⟨g0, 0, none⟩ = false := frozen_of_row W1 _ 0 _ _ h1
  have kp : W1.cell? ⟨W.heap.size, 0, none⟩ = some (.int .i64 d) := cell_of_row W1 _ 0 _ _ _ hp1
  have HSr := hide (Src.one (P := Try.prog) W1 (e := 3) Try.underlying40 (.int .i64 d) rfl)
  have HO := hide ((o.fr0 f1).fr0 ((Fr.refl No W1).alloc (.cells #[.int .i64 d] 3)))
  have HO0 := hide o
  have HF1 := hide f1
  have HH := hide h
  have HH1 := hide h1
  have HW1 := hide hW1
  have hgs : g0 < W.heap.size := (Array.getElem?_eq_some_iff.1 h).1
  have hz1 : W.heap.size ≤ W1.heap.size := f1.size
  have hzl : g0 ≤ (W1.alloc (.cells #[.int .i64 d] 3)).heap.size := by simp; omega
  obtain ⟨i0, hi, hz, hsz, hby⟩ := info_parts Try.infoRI
  have b1 : (n + 1) * 8 ≤ 140737488355328 := by omega
  have b2 : n + 1 ≤ maxLen := by unfold maxLen; omega
  clear h o f1 h1 hW1 hn hpn hp1 hv1 hv2
  go_enter Try.func41, Try.ntmps41
  go_upto_region 1 with (fail)
  rw [← HW1.out]
  clear HW1
  go_wp2_with (at_builtin; refine wpList_append_gen _ rfl (.tmp 3) (.tmp 6) 40 40 rfl g0 3 i0 (.int .i64 0) 1 8 Try.underlying40 hi hz hsz hby rfl _ n _ rfl HO.out _ 1 [.int .i64 d] rfl HSr.out b1 b2 hzl ?_; intro v2 w2 hown hfr hat; have hk := hfr.blk (((Fr.refl No W1).alloc (.cells #[.int .i64 d] 3)).blk HH1.out (fun h => h)) (fun e => HO0.out.ne_blk e HH.out (by decide)); obtain ⟨A2, c2, rfl, x1, x2, _⟩ := hown.form; have k2 : w2.cell? ⟨g0, 0, none⟩ = some (.slice Av n cv) := cell_of_row w2 _ 0 _ _ _ hk; have z2 : w2.frozen? ⟨g0, 0, none⟩ = false := frozen_of_row w2 _ 0 _ _ hk; have HK := hide hk; have HOn := hide hown; have HFn := hide hfr; clear hown hfr hat hk)
  go_end0
  obtain ⟨W4, hW4⟩ : ∃ x, x = w2.setCell ⟨g0, 0, none⟩ (.slice A2 (n + 1) c2) := ⟨_, rfl⟩
  have e1 : (40 : TypeId) ≠ 3 := by decide
  have f4 : Fr (Is g0) w2 W4 := by rw [hW4]; exact (Fr.refl (Is g0) w2).setCell (p := ⟨g0, 0, none⟩) (fun _ => rfl) _
  have fA : Fr No W (W1.alloc (.cells #[.int .i64 d] 3)) := HF1.out.alloc _
  have fB : Fr (DoS base W) W w2 := (fA.any (DoS base W)).trans HFn.out (fun i hi e => by
    obtain ⟨h1, cs, fz, h2⟩ := HO0.out.cellsT e
    exact ⟨by omega, cs, fz, _, h2, .inl rfl⟩)
  have fC : Fr (DoS base W) W W4 := fB.trans f4 (fun i hi e => by
    have e : i = g0 := e
    subst e
    exact ⟨hg, _, _, _, HH.out, .inr rfl⟩)
  rw [← hW4]
  refine ⟨⟨_, rfl⟩, fC, .slice A2 (n + 1) c2, ?_, ?_⟩
  · rw [hW4]; simp [World.setCell, Array.getElem?_modify, HK.out, Array.set!]
  · rw [List.length_append, List.length_singleton, ← HN.out, List.map_append]
    have := HOn.out.fr f4 (fun k hk e => HOn.out.ne_blk (by rw [show g0 = k from (show k = g0 from e).symm]; exact hk) HK.out (by decide))
    simpa [iz] using this
end Go.Proofs.Ytpopbkcbplmcaaa
namespace Go.Proofs.Ytpopbkcbplmcaaa
set_option linter.unusedVariables false
set_option linter.unusedSimpArgs false
open Go.RowKit

/-- a tree that is below. -/
def TrQ (W : World) (base gT dims : Nat) (l : List Pt) : Prop := ∃ gn vlo vhi, W.heap[gT]? = some (.cells #[.int .i64 (dims : Nat), .int .i64 (l.length : Nat), .pointer (some ⟨gn, 0, none⟩), vlo, vhi] 76 (0, 0)) ∧ gT < base ∧ TreeM W (fun k => k < base) (treeT dims l) gn
theorem TrQ.fr0 {W W' : World} {base gT dims : Nat} {l : List Pt} (h : TrQ W base gT dims l) (f : Fr No W W') : TrQ W' base gT dims l := by
  obtain ⟨gn, vlo, vhi, h1, h2, h3⟩ := h
  exact ⟨gn, vlo, vhi, f.blk h1 (fun h => h), h2, TreeM.fr f (fun _ _ h => h) h3⟩
theorem TrM.q {w : World} {b gT dims : Nat} {l : List Pt} (h : TrM w b gT dims l) : TrQ w w.heap.size gT dims l := by
  obtain ⟨gn, vlo, vhi, h1, h2, _⟩ := h.ex
  exact ⟨gn, vlo, vhi, h1, (Array.getElem?_eq_some_iff.1 h1).1, h2.mono fun k hk => hk.2⟩
/-- the points that are told. -/
def boxT (dims : Nat) (l : List Pt) (low high : List Int) : List Pt := if low.length = dims ∧ high.length = dims then eachT low high (treeT dims l) else []
def boxP (dims : Nat) (l : List Pt) (low high : List Int) : List Pt := if low.length = dims ∧ high.length = dims then l.filter (inB low high) else []
theorem boxT_perm {dims : Nat} {l : List Pt} {low high : List Int} (hm : mayP (dims : Int) l) : (boxT dims l low high).Perm (boxP dims l low high) := by
  unfold boxT boxP
  split
  · rw [eachT_eq dims low high (by have := hm.1; omega) _ l rfl (fun p hp => by have := (hm.2.2.2 p hp).1; omega)]
    exact (flatT_perm dims _ l rfl).filter _
  · exact List.Perm.refl _
theorem boxT_len {dims : Nat} {l : List Pt} {low high : List Int} : (boxT dims l low high).length ≤ l.length := by
  unfold boxT
  split
  · have := eachT_len low high (treeT dims l)
    rw [(flatT_perm dims _ l rfl).length_eq] at this
    exact this
  · exact Nat.zero_le _
theorem boxP_len {dims : Nat} {l : List Pt} {low high : List Int} : (boxP dims l low high).length ≤ l.length := by
  unfold boxP
  split
  · exact List.length_filter_le _ _
  · exact Nat.zero_le _
theorem each_any (base : Nat) (F : FuncId) (g0 : Nat) (Al Ah : Option Addr) (n1 n2 cl ch : Nat) (low high : List Int) (I : List Pt → World → Prop) (hd : DoC base F g0 I) (hl1 : low.length = n1) (hl2 : high.length = n2) (h1 : n1 ≤ cl) (h2 : n2 ≤ ch) (hc1 : cl ≤ maxLen) (hc2 : ch ≤ maxLen) (gT dims : Nat) (l : List Pt) (W : World) (hb : base ≤ W.heap.size)
    (hT : TrQ W base gT dims l) (hm : mayP (dims : Int) l) (hI : I [] W) (hr1 : Rd W base Al (iz .i64 low)) (hr2 : Rd W base Ah (iz .i64 high)) :
    Calls Try.prog 39 #[.pointer (some ⟨gT, 0, none⟩), .slice Al n1 cl, .slice Ah n2 ch, .func (.func F) #[] #[.pointer (some ⟨g0, 0, none⟩)]] W (Told base I (boxT dims l low high) W) := by
  obtain ⟨gn, vlo, vhi, h3, h4, h5⟩ := hT
  have k0 : W.cell? ⟨gT, 0, none⟩ = some (.int .i64 (dims : Nat)) := cell_of_row W _ 0 _ _ _ h3
  unfold boxT
  rw [hl1, hl2]
  by_cases he1 : n1 = dims
  · by_cases he2 : n2 = dims
    · rw [if_pos ⟨he1, he2⟩]
      subst he1
      subst he2
      have hlen : (flatT (treeT n2 l)).length ≤ 1048576 := by rw [(flatT_perm n2 _ l rfl).length_eq]; exact hm.2.2.1
      have := each_in base F g0 Al Ah n2 cl ch low high I hd hl1 hl2 (by have := hm.2.1; omega) h1 h2 hc1 hc2 gT gn _ vlo vhi (treeT n2 l) W [] hb h3 h4 h5 (okT_tree (by have := hm.1; omega) _ l rfl (fun p hp => by have := (hm.2.2.2 p hp).1; omega)) hI (by simpa using hlen) hr1 hr2
      simpa using this
    · rw [if_neg (fun h => he2 h.2)]
      subst he1
      exact (each_high F g0 Al Ah n1 n2 cl ch W gT n1 k0 he2 rfl).mono fun en W' h => ⟨h.1, h.2.any _, hd.up _ _ _ hI h.2⟩
  · rw [if_neg (fun h => he1 h.1)]
    exact (each_low F g0 Al Ah n1 n2 cl ch W gT dims k0 he1).mono fun en W' h => ⟨h.1, h.2.any _, hd.up _ _ _ hI h.2⟩
theorem fr_dos {w W W' : World} (h : Fr No w W) (k : Fr (DoS w.heap.size W) W W') : Fr No w W' := h.trans k (fun i hi e => by have := e.1; omega)
set_option maxRecDepth 100000 in
set_option maxHeartbeats 2000000 in
theorem count_any (b gT dims : Nat) (l : List Pt) (Al Ah : Option Addr) (n1 n2 cl ch B1 B2 : Nat) (low high : List Int) (w : World) (hT : TrM w b gT dims l) (hm : mayP (dims : Int) l) (hl1 : low.length = n1) (hl2 : high.length = n2) (h1 : n1 ≤ cl) (h2 : n2 ≤ ch) (hc1 : cl ≤ maxLen) (hc2 : ch ≤ maxLen) (hB1 : B1 ≤ w.heap.size) (hB2 : B2 ≤ w.heap.size) (hr1 : Rd w B1 Al (iz .i64 low)) (hr2 : Rd w B2 Ah (iz .i64 high)) :
    Calls Try.prog 13 #[.pointer (some ⟨gT, 0, none⟩), .slice Al n1 cl, .slice Ah n2 ch] w (fun en w' => en = .returned (.int .i64 ((boxP dims l low high).length : Nat)) ∧ Fr No w w') := by
  have hmf : ∀ (fn : Fn) (first cap : Array Value) (w : World), (Instr.makeFunc fn first cap).run Try.prog w = .ok (.func fn first cap) w := fun _ _ _ _ => rfl
  rw [← (boxT_perm (low := low) (high := high) hm).length_eq]
  have HE := hide (fun W (f : Fr No w W) (hI : CntI w.heap.size [] W) => each_any w.heap.size _ w.heap.size Al Ah n1 n2 cl ch low high _ (cnt_call w.heap.size w.heap.size (Nat.le_refl _)) hl1 hl2 h1 h2 hc1 hc2 gT dims l W f.size (hT.q.fr0 f) hm hI ((hr1.more hB1).fr0 f) ((hr2.more hB2).fr0 f))
  clear hT hm hl1 hl2 hr1 hr2 h1 h2 hc1 hc2
  go_enter Try.func13, Try.ntmps13
  go_wp2_with (fail)
  have hc := HE.out (w.alloc (.cells #[.int .i64 0] 3)) ((Fr.refl No w).alloc _) (heap_alloc_new w _)
  clear HE
  refine hc.mono ?_
  rintro en w2 ⟨⟨r, rfl⟩, f, hi⟩
  have HF := hide (fr_dos ((Fr.refl No w).alloc _) f)
  have hk : w2.cell? ⟨w.heap.size, 0, none⟩ = some (.int .i64 ((boxT dims l low high).length : Nat)) := cell_of_row w2 _ 0 _ _ _ hi
  clear hc f hi
  obtain ⟨n, hn⟩ : ∃ n, n = (boxT dims l low high).length := ⟨_, rfl⟩
  have HN := hide hn
  rw [← hn] at hk
  clear hn
  go_wp2_with (fail)
  go_ret
  rw [← HN.out]
  exact ⟨rfl, HF.out⟩
end Go.Proofs.Ytpopbkcbplmcaaa
namespace Go.Proofs.Ytpopbkcbplmcaaa
set_option linter.unusedVariables false
set_option linter.unusedSimpArgs false
open Go.RowKit

theorem take_getD0 {α : Type} {l : List α} {m : Nat} (d : α) (h : m < l.length) : l.take (m + 1) = l.take m ++ [l.getD m d] := by
  rw [List.take_succ_eq_append_getElem h]
  congr 2
  simp [List.getElem?_eq_getElem h]
def sortZ (l : List Int) : List Int := l.mergeSort (fun x y => decide (x ≤ y))
def leZ (l : List Int) : Prop := l.Pairwise (· ≤ ·)
def ltZ (l : List Int) : Prop := l.Pairwise (· < ·)
theorem sortZ_le (l : List Int) : leZ (sortZ l) := by
  have h := List.pairwise_mergeSort (le := fun x y : Int => decide (x ≤ y)) (fun a b c h1 h2 => by simp only [decide_eq_true_eq] at *; omega) (fun a b => by simp only [Bool.or_eq_true, decide_eq_true_eq]; omega) l
  exact h.imp (fun h => of_decide_eq_true h)
theorem sortZ_perm (l : List Int) : (sortZ l).Perm l := List.mergeSort_perm l _
theorem sortZ_len (l : List Int) : (sortZ l).length = l.length := List.length_mergeSort l
theorem sortZ_nil : sortZ [] = [] := by simp [sortZ]
/-- texts in order, each once. -/
def setZ (l : List Int) : List Int := Lib.compact (sortZ l)
theorem compact_stepZ (l : List Int) (h : leZ l) : ∀ m, m ≤ l.length → ltZ (Lib.compactUpTo l.toArray m) ∧ (∀ t, t ∈ Lib.compactUpTo l.toArray m ↔ t ∈ l.take m) ∧ (∀ t ∈ Lib.compactUpTo l.toArray m, ∀ k, m - 1 = k → t ≤ l.getD k 0)
  | 0, _ => by simp [Lib.compactUpTo, ltZ]
  | m + 1, hm => by
    obtain ⟨h1, h2, h3⟩ := compact_stepZ l h m (by omega)
    have hlt : m < l.length := hm
    have hget : l.toArray[m]! = l.getD m 0 := by simp [List.getD, List.getElem?_eq_getElem hlt, getElem!_pos, hlt]
    have hle : ∀ t ∈ l.take m, t ≤ l.getD m 0 := fun t ht => by
      obtain ⟨i, hi, rfl⟩ := List.getElem_of_mem ht
      rw [List.length_take] at hi
      rw [List.getElem_take, List.getD, List.getElem?_eq_getElem hlt]
      exact List.pairwise_iff_getElem.1 h i m (by omega) hlt (by omega)
    rw [Lib.compactUpTo_succ, hget, take_getD0 (0 : Int) hlt]
    by_cases hk : Lib.keeps l.toArray m = true
    · rw [if_pos hk]
      have hlast : ∀ t ∈ Lib.compactUpTo l.toArray m, t < l.getD m 0 := fun t ht => by
        have hm0 : 0 < m := by
          rcases Nat.eq_zero_or_pos m with e | e
          · subst e; simp [Lib.compactUpTo] at ht
          · exact e
        have hlt1 : m - 1 < l.length := by omega
        have hp : l.toArray[m - 1]! = l.getD (m - 1) 0 := by simp [List.getD, List.getElem?_eq_getElem hlt1, getElem!_pos, hlt1]
        have hne : l.getD (m - 1) 0 ≠ l.getD m 0 := by
          unfold Lib.keeps at hk
          have := of_decide_eq_true hk
          rcases this with h | h
          · omega
          · rw [hget, hp] at h; exact fun e => h e.symm
        have hle1 := h3 t ht (m - 1) rfl
        have hle2 : l.getD (m - 1) 0 ≤ l.getD m 0 := hle _ (by
          rw [List.getD, List.getElem?_eq_getElem hlt1]
          exact List.mem_take_iff_getElem.2 ⟨m - 1, by omega, rfl⟩)
        have := (Int.lt_iff_le_and_ne.2 ⟨hle2, hne⟩)
        exact Int.lt_of_le_of_lt hle1 this
      refine ⟨?_, fun t => ?_, fun t ht k hk => ?_⟩
      · unfold ltZ
        rw [List.pairwise_append]
        exact ⟨h1, by simp, fun a ha b hb => by rw [List.mem_singleton.1 hb]; exact hlast a ha⟩
      · rw [List.mem_append, List.mem_append, h2]
      · have e : k = m := by omega
        subst e
        rcases List.mem_append.1 ht with ht | ht
        · exact hle t ((h2 t).1 ht)
        · rw [List.mem_singleton.1 ht]; exact Int.le_refl _
    · have hk' : Lib.keeps l.toArray m = false := by simpa using hk
      rw [hk', if_neg (by decide), List.append_nil]
      have hm0 : 0 < m := by
        rcases Nat.eq_zero_or_pos m with e | e
        · subst e; simp [Lib.keeps] at hk'
        · exact e
      have hlt1 : m - 1 < l.length := by omega
      have hp : l.toArray[m - 1]! = l.getD (m - 1) 0 := by simp [List.getD, List.getElem?_eq_getElem hlt1, getElem!_pos, hlt1]
      have heq : l.getD m 0 = l.getD (m - 1) 0 := by
        unfold Lib.keeps at hk'
        have := of_decide_eq_false hk'
        rw [hget, hp] at this
        exact Classical.byContradiction fun e => this (.inr e)
      have hmem : l.getD m 0 ∈ l.take m := by
        rw [heq, List.getD, List.getElem?_eq_getElem hlt1]
        exact List.mem_take_iff_getElem.2 ⟨m - 1, by omega, rfl⟩
      refine ⟨h1, fun t => ?_, fun t ht k hk => ?_⟩
      · rw [h2, List.mem_append, List.mem_singleton]
        exact ⟨.inl, fun h => h.elim id (fun e => e ▸ hmem)⟩
      · have e : k = m := by omega
        subst e
        exact hle t ((h2 t).1 ht)
theorem compact_setZ {l : List Int} (h : leZ l) : ltZ (Lib.compact l) ∧ ∀ t, t ∈ Lib.compact l ↔ t ∈ l := by
  obtain ⟨h1, h2, _⟩ := compact_stepZ l h l.length (Nat.le_refl _)
  rw [List.take_length] at h2
  exact ⟨h1, h2⟩
theorem setZ_lt (l : List Int) : ltZ (setZ l) := (compact_setZ (sortZ_le l)).1
theorem setZ_mem (l : List Int) (t : Int) : t ∈ setZ l ↔ t ∈ l := by
  rw [setZ, (compact_setZ (sortZ_le l)).2]
  exact (sortZ_perm l).mem_iff
theorem ltZ_nodup {l : List Int} (h : ltZ l) : l.Nodup := h.imp (fun h e => by rw [e] at h; exact Int.lt_irrefl _ h)
/-- strictly ascending rows of the same texts are the same. -/
theorem ltZ_ext {l m : List Int} (h1 : ltZ l) (h2 : ltZ m) (h : ∀ t, t ∈ l ↔ t ∈ m) : l = m :=
  ((List.perm_ext_iff_of_nodup (ltZ_nodup h1) (ltZ_nodup h2)).2 h).eq_of_pairwise (fun a b _ _ h1 h2 => absurd (Int.lt_trans h1 h2) (Int.lt_irrefl _)) h1 h2
theorem setZ_of {l m : List Int} (h1 : ltZ m) (h : ∀ t, t ∈ m ↔ t ∈ l) : setZ l = m := ltZ_ext (setZ_lt l) h1 (fun t => by rw [setZ_mem, h])
theorem setZ_of_lt {l : List Int} (h : ltZ l) : setZ l = l := setZ_of h (fun _ => Iff.rfl)
theorem setZ_perm {l m : List Int} (h : l.Perm m) : setZ l = setZ m := setZ_of (setZ_lt m) (fun t => by rw [setZ_mem]; exact h.mem_iff.symm)
theorem compactZ_le (l : List Int) : (Lib.compact l).length ≤ l.length := by
  unfold Lib.compact Lib.compactUpTo
  rw [List.length_map]
  exact Nat.le_trans (List.length_filter_le _ _) (by simp)
/-- the documents of the points in a box. -/
def rngZ (dims : Nat) (l : List Pt) (low high : List Int) : List Int := setZ ((boxP dims l low high).map (·.1))
end Go.Proofs.Ytpopbkcbplmcaaa
namespace Go.Proofs.Ytpopbkcbplmcaaa
set_option linter.unusedVariables false
set_option linter.unusedSimpArgs false
open Go.RowKit

set_option maxRecDepth 100000 in
set_option maxHeartbeats 4000000 in
theorem rin_any (d : Int) (P low high : List Int) (Ap Al Ah : Option Addr) (m cp cl ch B1 B2 B3 : Nat) (w : World) (hp : P.length = m) (hl1 : low.length = m) (hl2 : high.length = m) (hm4 : m ≤ 4) (h1 : m ≤ cp) (h2 : m ≤ cl) (h3 : m ≤ ch) (hc1 : cp ≤ maxLen) (hc2 : cl ≤ maxLen) (hc3 : ch ≤ maxLen) (hr1 : Rd w B1 Ap (iz .i64 P)) (hr2 : Rd w B2 Al (iz .i64 low)) (hr3 : Rd w B3 Ah (iz .i64 high)) :
    Calls Try.prog 44 #[.agg #[.int .i64 d, .slice Ap m cp], .slice Al m cl, .slice Ah m ch] w (fun en w' => en = .returned (.bool (inB low high (d, P))) ∧ Fr No w w') := by
  unfold maxLen at hc1 hc2 hc3
  have HP := hide hp
  have HL1 := hide hl1
  have HL2 := hide hl2
  have f1 : Fr No w (w.alloc (.cells #[.int .i64 d, .slice Ap m cp] 61)) := (Fr.refl No w).alloc _
  have HR1 := hide (hr1.fr0 f1)
  have HR2 := hide (hr2.fr0 f1)
  have HR3 := hide (hr3.fr0 f1)
  have hb1 := heap_alloc_new w (.cells #[.int .i64 d, .slice Ap m cp] 61)
  obtain ⟨w1, hw1⟩ : ∃ x, x = w.alloc (.cells #[.int .i64 d, .slice Ap m cp] 61) := ⟨_, rfl⟩
  obtain ⟨g, hg⟩ : ∃ x, x = w.heap.size := ⟨_, rfl⟩
  rw [← hw1] at f1 hb1 HR1 HR2 HR3
  rw [← hg] at hb1
  have HF1 := hide f1
  have HW1 := hide hw1
  have HG := hide hg
  have HB1 := hide hb1
  have kb : w1.cell? ⟨g, 1, none⟩ = some (.slice Ap m cp) := cell_of_row w1 _ 1 _ _ _ hb1
  obtain ⟨r, hr⟩ : ∃ r, r = inB low high (d, P) := ⟨_, rfl⟩
  rw [← hr]
  have HRs := hide hr
  clear hp hl1 hl2 f1 hr1 hr2 hr3 hb1 hw1 hg hr
  go_enter Try.func44, Try.ntmps44
  go_upto_region 1 with (fail)
  rw [← HW1.out, ← HG.out]
  clear HW1 HG
  go_wp2_with (fail)
  go_loopg [7] m (fun gk i wr => ∃ q nq : Nat, q + gk = m ∧ i = .int .i64 (q : Nat) ∧ wr = w1.drewN nq ∧ Hid (∀ d, d < q → low.getD d 0 ≤ P.getD d 0 ∧ P.getD d 0 ≤ high.getD d 0))
  case atStart => exact ⟨0, 0, by omega, rfl, rfl, hide (fun d hd => absurd hd (Nat.not_lt_zero d))⟩
  case round =>
    obtain ⟨q, nq, hq, rfl, rfl, HB⟩ := hrel
    by_cases hlq : q < m
    · obtain ⟨adp, rfl, _, hxp⟩ := cellInt HR1.out (k := q) (by rw [HP.out]; exact hlq)
      obtain ⟨adl, rfl, _, hxl⟩ := cellInt HR2.out (k := q) (by rw [HL1.out]; exact hlq)
      obtain ⟨adh, rfl, _, hxh⟩ := cellInt HR3.out (k := q) (by rw [HL2.out]; exact hlq)
      obtain ⟨g3, rfl⟩ : ∃ g', gk = g' + 1 := ⟨gk - 1, by omega⟩
      obtain ⟨x, hx⟩ : ∃ x, x = P.getD q 0 := ⟨_, rfl⟩
      obtain ⟨y, hy⟩ : ∃ x, x = low.getD q 0 := ⟨_, rfl⟩
      obtain ⟨z, hz⟩ : ∃ x, x = high.getD q 0 := ⟨_, rfl⟩
      rw [← hx] at hxp
      rw [← hy] at hxl
      rw [← hz] at hxh
      have HX := hide hx
      have HY := hide hy
      have HZ := hide hz
      have HQ := hide hq
      clear hx hy hz hq
      by_cases hlo : x < y
      · have hbn := inB_no (low := low) (high := high) (p := (d, P)) (d := q) (by dsimp only; rw [HP.out]; exact hlq) (.inl (by rw [← HX.out, ← HY.out]; exact hlo))
        rw [← HRs.out] at hbn
        have HBn := hide hbn
        clear hbn HRs
        go_upto_region 4 with (fail)
        go_quiet (fail)
        go_wp2_with (fail)
        go_ret
        exact ⟨by rw [HBn.out]; rfl, (by first | exact HF1.out.drewN _ | exact (HF1.out.drewN _).drewN _)⟩
      · by_cases hhi : z < x
        · have hbn := inB_no (low := low) (high := high) (p := (d, P)) (d := q) (by dsimp only; rw [HP.out]; exact hlq) (.inr (by rw [← HX.out, ← HZ.out]; exact hhi))
          rw [← HRs.out] at hbn
          have HBn := hide hbn
          clear hbn HRs
          go_upto_region 4 with (fail)
          go_quiet (fail)
          go_wp2_with (fail)
          go_ret
          exact ⟨by rw [HBn.out]; rfl, (by first | exact HF1.out.drewN _ | exact (HF1.out.drewN _).drewN _)⟩
        · have HB2 : Hid (∀ d, d < q + 1 → low.getD d 0 ≤ P.getD d 0 ∧ P.getD d 0 ≤ high.getD d 0) := hide (fun d hd => by
            by_cases h : d < q
            · exact HB.out d h
            · obtain rfl : d = q := by omega
              rw [← HX.out, ← HY.out, ← HZ.out]
              omega)
          clear HB
          go_upto_region 4 with (fail)
          go_quiet (fail)
          go_wp2_with (fail)
          go_roundg g3
          case measure => omega
          case rel => exact ⟨q + 1, _, by have := HQ.out; omega, by go_num, rfl, HB2⟩
    · obtain rfl : q = m := by omega
      have hbn : r = true := by rw [HRs.out]; exact inB_iff.2 (fun d hd => HB.out d (by dsimp only at hd; rw [HP.out] at hd; exact hd))
      have HBn := hide hbn
      clear hbn HRs
      go_wp2_with (fail)
      go_ret
      exact ⟨by rw [HBn.out]; rfl, (by first | exact HF1.out.drewN _ | exact (HF1.out.drewN _).drewN _)⟩
set_option maxRecDepth 100000 in
set_option maxHeartbeats 4000000 in
theorem rcount_in (A Al Ah : Option Addr) (n m c cl ch B B2 B3 : Nat) (l : List Po) (low high : List Int) (w : World) (hl : l.length = n) (hn : n ≤ c) (hc : c ≤ maxLen) (hm : mayP (m : Int) l) (hl1 : low.length = m) (hl2 : high.length = m) (h2 : m ≤ cl) (h3 : m ≤ ch) (hc2 : cl ≤ maxLen) (hc3 : ch ≤ maxLen) (hr : RdPo w B A l) (hr2 : Rd w B2 Al (iz .i64 low)) (hr3 : Rd w B3 Ah (iz .i64 high)) :
    Calls Try.prog 25 #[.int .i64 (m : Nat), .slice A n c, .slice Al m cl, .slice Ah m ch] w (fun en w' => en = .returned (.int .i64 ((l.filter (inB low high)).length : Nat)) ∧ Fr No w w') := by
  have hm4 : m ≤ 4 := by have := hm.2.1; omega
  have hn20 : n ≤ 1048576 := by have := hm.2.2.1; omega
  have HPL := hide (fun p (hp : p ∈ l) => (show p.2.length = m by have := (hm.2.2.2 p hp).1; omega))
  have HL := hide hl
  have HR := hide hr
  have HIn := hide (fun (d : Int) (P : List Int) (Ap : Option Addr) (cp Bp : Nat) (W : World) (f : Fr No w W) (hp : P.length = m) (h1 : m ≤ cp) (hc1 : cp ≤ maxLen) (hr1 : Rd W Bp Ap (iz .i64 P)) => rin_any d P low high Ap Al Ah m cp cl ch Bp B2 B3 W hp hl1 hl2 hm4 h1 h2 h3 hc1 hc2 hc3 hr1 (hr2.fr0 f) (hr3.fr0 f))
  have b1 : ((m : Int) == (m : Int)) = true := by simp
  unfold maxLen at hc
  clear hl hr hm hl1 hl2 hr2 hr3 hc2 hc3 h2 h3 hm4
  go_enter Try.func25, Try.ntmps25
  go_wp2_with (fail)
  go_loopg [9, 10] n (fun gk cn i wr => ∃ k : Nat, k + gk = n ∧ i = .int .i64 (k : Nat) ∧ (∃ s : Nat, s ≤ k ∧ Hid (s = ((l.take k).filter (inB low high)).length) ∧ cn = .int .i64 (s : Nat)) ∧ Hid (Fr No w wr))
  case atStart => exact ⟨0, by omega, rfl, ⟨0, Nat.le_refl _, hide (by simp), rfl⟩, hide (Fr.refl _ _)⟩
  case round =>
    obtain ⟨k, hk, rfl, ⟨s, hsk, HS, rfl⟩, HF⟩ := hrel
    by_cases hlk : k < n
    · obtain ⟨wo, rfl⟩ : ∃ wo : World, wo = wr := ⟨_, rfl⟩
      have hkl : k < l.length := by rw [HL.out]; exact hlk
      obtain ⟨ad, Ak, cp, rfl, _, kc0, kc1, hpc, hpm, hrp⟩ := (HR.out.fr0 HF.out).at hkl
      have hpl := HPL.out _ (getP_mem hkl)
      have HSn := hide (filt_snoc (f := inB low high) hkl)
      obtain ⟨p, hp⟩ : ∃ p, p = l.getD k noPo := ⟨_, rfl⟩
      have hp' : l.getD k noPt = p := hp.symm
      rw [← hp] at kc0 kc1 hpc hrp hpl
      rw [hp'] at HSn
      obtain ⟨g', rfl⟩ : ∃ g', gk = g' + 1 := ⟨gk - 1, by omega⟩
      obtain ⟨pd, P⟩ := p
      dsimp only at kc0 kc1 hpc hrp hpl
      rw [hpl] at kc1 hpc
      have HC := hide (HIn.out pd P Ak cp _ wo HF.out hpl hpc hpm hrp)
      have HK := hide hk
      have d1 : decide ((k : Int) < (n : Int)) = true := decide_eq_true (by omega)
      obtain ⟨bb, hbb⟩ : ∃ b, b = inB low high (pd, P) := ⟨_, rfl⟩
      rw [← hbb] at HC HSn
      unfold maxLen at hpm
      clear hkl hp hp' hpl hrp hk hbb
      go_wp2_with (go_at_call 44; refine HC.out.mono ?_; rintro en w2 ⟨rfl, f2⟩; have HF2 := hide (HF.out.tr f2); clear f2; cases bb)
      · go_roundg g'
        case measure => omega
        case rel => exact ⟨k + 1, by have := HK.out; omega, by go_num, ⟨s, by omega, hide (by rw [HSn.out, if_neg Bool.false_ne_true, List.append_nil]; exact HS.out), rfl⟩, HF2⟩
      · go_roundg g'
        case measure => omega
        case rel => exact ⟨k + 1, by have := HK.out; omega, by go_num, ⟨s + 1, by omega, hide (by rw [HSn.out, List.length_append, ← HS.out]; simp), by go_num⟩, HF2⟩
    · obtain rfl : k = n := by omega
      have hall : l.take k = l := List.take_of_length_le (by rw [HL.out]; exact Nat.le_refl _)
      rw [hall] at HS
      clear hall hk
      go_wp2_with (fail)
      go_ret
      refine ⟨?_, HF.out⟩
      rw [← HS.out]
      rfl
end Go.Proofs.Ytpopbkcbplmcaaa
