/- Several texts in one: TxOW, RefNum, RefRd, RefCut. -/
import Derived.Test.YtnjcncidlhllmaaGreatK15
import Derived.Deep.RegionLaw
namespace Go.Proofs.YtnjcncidlhllmaaGreat
set_option linter.unusedVariables false
set_option linter.unusedSimpArgs false
open Go.RowKit

theorem sizeS_leb {bs : List UInt8} : (hT bs).1 ≤ bs.length := by
  have h := sizeS_le (bs := bs) (a := 0) (e := 0) (most := ((bs.length : Nat) : Int)) (by omega)
  unfold hT
  omega
/-- a column of texts under way: at G the struct, at P where it lies. -/
structure TxM (w : World) (base P G : Nat) (vt : Value) (k : Nat) (ts : List Tx) : Prop where
  g : w.heap[G]? = some (.cells #[.slice none 0 0, .slice none 0 0, vt] 83 (0, 0))
  p : w.heap[P]? = some (.cells #[.pointer (some ⟨G, 0, none⟩)] 35 (0, 0))
  t : Own w base 9 1 vt k (svs ts)
theorem TxM.off {S : Nat → Prop} {w w' : World} {base P G k : Nat} {vt : Value} {ts : List Tx} (h : TxM w base P G vt k ts) (f : Fr S w w') (h1 : Off S w 83) (h2 : Off S w 35) (h3 : Off S w 9) : TxM w' base P G vt k ts :=
  ⟨f.blk h.g (h1 _ _ _ h.g), f.blk h.p (h2 _ _ _ h.p), h.t.off f h3⟩
theorem TxM.fr0 {w w' : World} {base P G k : Nat} {vt : Value} {ts : List Tx} (h : TxM w base P G vt k ts) (f : Fr No w w') : TxM w' base P G vt k ts := ⟨f.blk h.g (fun h => h), f.blk h.p (fun h => h), h.t.fr0 f⟩
theorem off_rd {w : World} {g : Nat} {bs : List UInt8} {a : Nat} {e : Int} (h : RD w g bs a e) {t : TypeId} (hne : t ≠ 108) : Off (Is g) w t := by
  obtain ⟨A, c, hh, _⟩ := h
  exact off_is hh hne
theorem TxM.rd {w w' : World} {base P G k g : Nat} {vt : Value} {ts : List Tx} {bs : List UInt8} {a : Nat} {e : Int} (h : TxM w base P G vt k ts) (r : RD w g bs a e) (f : Fr (Is g) w w') : TxM w' base P G vt k ts :=
  h.off f (off_rd r (by decide)) (off_rd r (by decide)) (off_rd r (by decide))
theorem RdPost.uni {w : World} {bs : List UInt8} {en : Ending} {w' : World} (h : RdPost w bs en w') : ∃ A1 n1 c1 A2 n2 c2 b, en = .returned (.tuple #[.agg #[.slice A1 n1 c1, .slice A2 n2 c2], .bool b]) ∧ Fr No w w' ∧
    (b = true → rdOk bs ∧ n1 = nV bs ∧ n2 = (aV bs).1.length ∧ Own w' w.heap.size 3 1 (.slice A1 n1 c1) n1 (iz .i64 (endsV (bV bs).1 (lV bs).1 (nV bs))) ∧ Own w' w.heap.size 2 1 (.slice A2 n2 c2) n2 (iz .i64 (aV bs).1)) ∧ (b = false → ¬ rdOk bs) := by
  obtain ⟨hf, ⟨hok, v1, v2, rfl, o1, o2⟩ | ⟨hno, A1, n1, c1, A2, n2, c2, rfl⟩⟩ := h
  · obtain ⟨A1, c1, rfl, _⟩ := o1.form
    obtain ⟨A2, c2, rfl, _⟩ := o2.form
    exact ⟨A1, _, c1, A2, _, c2, true, rfl, hf, fun _ => ⟨hok, rfl, rfl, o1, o2⟩, fun h => by cases h⟩
  · exact ⟨A1, n1, c1, A2, n2, c2, false, rfl, hf, fun h => (by cases h), fun _ => hno⟩
def OpenTQ (w : World) (bs : List UInt8) (en : Ending) (w' : World) : Prop := Fr No w w' ∧ ((¬ accT bs ∧ en = .returned (.tuple #[.pointer none, .int .i64 20])) ∨ (accT bs ∧ ∃ G bits lens all, en = .returned (.tuple #[.pointer (some ⟨G, 0, none⟩), .int .i64 0]) ∧ ColT w' w.heap.size G bits lens all (nV (restT bs)) (tT bs).1 ∧ rowsV bits lens all (nV (restT bs)) = rdV (restT bs)))
set_option maxRecDepth 100000 in
set_option maxHeartbeats 8000000 in
theorem openTexts_any (A : Option Addr) (m c B : Nat) (bs : List UInt8) (w : World) (hl : bs.length = m) (hn : m ≤ c) (hc : c ≤ maxLen) (hb : m ≤ 8796093022207) (hB : B ≤ w.heap.size) (hr : Rd w B A (by8 bs)) :
    Calls Tryz.prog 14 #[.slice A m c] w (OpenTQ w bs) := by
  have HR := hide hr
  have HL := hide hl
  have hc' := hc
  have hnm := sizeS_leb (bs := bs)
  rw [hl] at hnm
  have HT0 : Hid (tT bs = txsS bs (hT bs).1 (hT bs).2.1 (hT bs).2.2) := hide rfl
  obtain ⟨⟨n, a0, e0⟩, hh⟩ : ∃ x, x = hT bs := ⟨_, rfl⟩
  rw [← hh] at hnm HT0
  have hh2 : sizeS bs 0 0 (m : Nat) = (n, a0, e0) := by rw [hh, hT, hl]
  have HHd := hide hh2
  dsimp only at hnm HT0
  unfold maxLen at hc
  clear hr hl hh hh2
  obtain ⟨is, his, hzs, hszs, hbys⟩ := info_parts Tryz.infoS
  go_enter Tryz.func14, Tryz.ntmps14
  go_wp2_with (fail)
  obtain ⟨G, hG⟩ : ∃ x, x = w.heap.size := ⟨_, rfl⟩
  obtain ⟨P, hP⟩ : ∃ x, x = w.heap.size + 1 := ⟨_, rfl⟩
  obtain ⟨w1, hw1⟩ : ∃ x, x = (w.alloc (.cells #[.slice none 0 0, .slice none 0 0, .slice none 0 0] 83)).alloc (.cells #[.pointer (some ⟨w.heap.size, 0, none⟩)] 35) := ⟨_, rfl⟩
  have f1 : Fr No w w1 := by rw [hw1]; exact ((Fr.refl No w).alloc _).alloc _
  have htm : TxM w1 w.heap.size P G (.slice none 0 0) 0 [] := by
    refine ⟨?_, ?_, Own.nil _ _ _ _⟩
    · rw [hw1, hG, heap_alloc_old _ _ (by simp)]; exact heap_alloc_new w _
    · have := heap_alloc_new (w.alloc (.cells #[.slice none 0 0, .slice none 0 0, .slice none 0 0] 83)) (.cells #[.pointer (some ⟨w.heap.size, 0, none⟩)] 35)
      rw [hw1, hP, hG]; simpa using this
  have hz1 : w1.heap.size = w.heap.size + 2 := by rw [hw1]; simp
  rw [← hw1, ← hP, ← hG]
  have HN := hide (newReader_any A m c B bs w1 HL.out hn hc' (by omega) (by have := f1.size; omega) (HR.out.fr0 f1))
  have HTm1 := hide htm
  have HF1 := hide f1
  have HG := hide hG
  have HP := hide hP
  clear hw1 f1 htm hP hG
  refine HN.out.mono ?_
  rintro en w2 ⟨g, rfl, hg, hrd, hf⟩
  have HF2 := hide (HF1.out.tr hf)
  have HTm2 := hide (HTm1.out.fr0 hf)
  have HRd2 := hide hrd
  have HGg : Hid (w.heap.size ≤ g) := hide (by omega)
  have HSz := hide (sizeN_any g bs 0 0 (m : Nat) w2 hrd (by omega) (by omega))
  rw [HHd.out] at HSz
  dsimp only at HSz
  clear hf hrd hg HN HTm1 HF1 hz1
  go_wp2_with (fail)
  refine HSz.out.mono ?_
  rintro en w3 ⟨rfl, hrd, hf⟩
  have HF3 : Hid (Fr No w w3) := hide (HF2.out.trans hf (fun i hi e => by have e : i = g := e; have := HGg.out; omega))
  have HTm3 := hide (HTm2.out.rd HRd2.out hf)
  have HRd3 := hide hrd
  clear hrd hf HSz HTm2 HF2 HRd2 HHd
  go_wp2_with (fail)
  go_loopw [6] (fun i wr => ∃ (k m' a : Nat) (e : Int) (vt : Value) (ts : List Tx), i = .int .i64 (m' : Nat) ∧ k + m' ≤ m ∧ Hid (k = ts.length) ∧ Hid (tT bs = (ts ++ (txsS bs m' a e).1, (txsS bs m' a e).2)) ∧ Hid (Fr No w wr) ∧ Hid (RD wr g bs a e) ∧ Hid (TxM wr w.heap.size P G vt k ts)) (fun i _ => (intOf i).toNat)
  case atStart => exact ⟨0, n, a0, e0, .slice none 0 0, [], by go_num, by omega, hide rfl, hide (by rw [HT0.out]; simp), HF3, HRd3, HTm3⟩
  case round =>
    clear HF3 HRd3 HTm3 HT0
    obtain ⟨wo, rfl⟩ : ∃ wo : World, wo = wr := ⟨_, rfl⟩
    obtain ⟨k, m', a, e, vt, ts, rfl, hkm, HKl, HTt, HF, HRd, HTm⟩ := hrel
    have HEr := hide (err_any g bs a e wo HRd.out)
    by_cases hgo : 0 < m' ∧ e = 0
    · obtain ⟨hm0, rfl⟩ := hgo
      obtain ⟨m1, hm1⟩ : ∃ x, x + 1 = m' := ⟨m' - 1, by omega⟩
      have em : (m' : Int) - 1 = (m1 : Int) := by omega
      obtain ⟨⟨t, a', e'⟩, htx⟩ : ∃ x, x = textS bs a 0 256 := ⟨_, rfl⟩
      have HTx := hide (fun W (h : RD W g bs a 0) => text_any g bs a 0 256 W h (by omega) (by omega))
      rw [← htx] at HTx
      dsimp only at HTx
      have htt := HTt.out
      rw [← hm1, txsS, if_pos rfl, ← htx] at htt
      dsimp only at htt
      have HTt' : Hid (tT bs = ((ts ++ [t]) ++ (txsS bs m1 a' e').1, (txsS bs m1 a' e').2)) := hide (by rw [htt]; simp)
      obtain ⟨At, ct, rfl, y1, y2, -⟩ := HTm.out.t.form
      have d0 : decide (0 < m') = true := decide_eq_true hm0
      have d1 : decide ((0 : Int) < (m' : Int)) = true := decide_eq_true (by omega)
      have b1 : (k + 1) * 16 ≤ 140737488355328 := by omega
      have b2 : k + 1 ≤ maxLen := by unfold maxLen; omega
      have kP : wo.drew.cell? ⟨P, 0, none⟩ = some (.pointer (some ⟨G, 0, none⟩)) := cell_of_row _ _ 0 _ _ _ HTm.out.p
      have kG : wo.drew.cell? ⟨G, 2, none⟩ = some (.slice At k ct) := cell_of_row _ _ 2 _ _ _ HTm.out.g
      unfold maxLen at y2
      clear htx htt
      go_upto_region 6 with (go_at_call 50; refine HEr.out.mono ?_; rintro en w' ⟨rfl, rfl⟩)
      refine wp_named fun K hK => ?_
      go_cut [] from 27 to 37 (fun wz => ∃ vt', Hid (TxM wz w.heap.size P G vt' (k + 1) (ts ++ [t])) ∧ Hid (RD wz g bs a' e') ∧ Hid (Fr No w wz))
      case first =>
        have HPG : Hid (¬ Is G P) := hide (fun e => by have e : P = G := e; have := HG.out; have := HP.out; omega)
        refine wp_region_held_drew (S := fun W => W.cell? ⟨P, 0, none⟩ = some (.pointer (some ⟨G, 0, none⟩))) (by kernel_rfl) kP (fun hS0 => ?_)
        refine wpAnyH_take (i := 0) (v := (.pointer (some ⟨G, 0, none⟩))) rfl (by kernel_rfl) (by kernel_rfl) (by kernel_rfl) (fun _ _ _ h => h) (Or.inl ⟨by rfl, fun w hSw => by go_simp⟩) (by assumption) ?_
        try simp only [Act.put, List.setIfInBounds_toArray, List.set_cons_zero, List.set_cons_succ]
        refine wpAnyH_take (i := 1) (v := (.pointer (some ⟨G, 0, none⟩))) rfl (by kernel_rfl) (by kernel_rfl) (by kernel_rfl) (fun _ _ _ h => h) (Or.inl ⟨by rfl, fun w hSw => by go_simp⟩) (by assumption) ?_
        try simp only [Act.put, List.setIfInBounds_toArray, List.set_cons_zero, List.set_cons_succ]
        refine wpAnyH_take (i := 2) (v := (.pointer (some ⟨G, 0, none⟩))) rfl (by kernel_rfl) (by kernel_rfl) (by kernel_rfl) (fun _ _ _ h => h) (Or.inl ⟨by rfl, fun w hSw => by go_simp⟩) (by assumption) ?_
        try simp only [Act.put, List.setIfInBounds_toArray, List.set_cons_zero, List.set_cons_succ]
        refine wpAnyH_take (i := 3) (v := (.pointer (some ⟨G, 2, none⟩))) rfl (by kernel_rfl) (by kernel_rfl) (by kernel_rfl) (fun _ _ _ h => h) (Or.inl ⟨by rfl, fun w hSw => by go_simp⟩) (by assumption) ?_
        try simp only [Act.put, List.setIfInBounds_toArray, List.set_cons_zero, List.set_cons_succ]
        refine wpAnyH_take (i := 5) (v := (.pointer (some ⟨g, 0, none⟩))) rfl (by kernel_rfl) (by kernel_rfl) (by kernel_rfl) (fun _ _ _ h => h) (Or.inl ⟨by rfl, fun w hSw => by go_simp⟩) (by assumption) ?_
        try simp only [Act.put, List.setIfInBounds_toArray, List.set_cons_zero, List.set_cons_succ]
        refine wpAnyH_ready (rs := [4, 6]) (by kernel_rfl) (by simp) ?_
        refine AllReadyH.cons rfl (fun K hK => ?_) (AllReadyH.cons rfl (fun K hK => ?_) AllReadyH.nil)
        · go_simp
          refine hK.out _ _ kP (fun hS1 => ?_)
          clear hK K hS0
          have hS0 := hS1
          clear hS1
          try simp only [Act.put, List.setIfInBounds_toArray, List.set_cons_zero, List.set_cons_succ]
          refine wpAnyH_ready (rs := [6]) (by kernel_rfl) (by simp) ?_
          refine AllReadyH.cons rfl (fun K hK => ?_) AllReadyH.nil
          go_simp
          go_at_call 51
          refine (HTx.out _ (HRd.out.fr0 ((Fr.refl No wo).drew))).mono ?_
          rintro en w5 ⟨rfl, hrd, hf⟩
          have HRd5 := hide hrd
          have hf5 : Fr (Is g) wo w5 := Fr.of_drewN (n := 1) hf
          have HTm5 := hide (HTm.out.rd HRd.out hf5)
          have HF55 := hide hf5
          have HF5 : Hid (Fr No w w5) := hide (HF.out.trans hf5 (fun i hi e => by have e : i = g := e; have := HGg.out; omega))
          have HK5 : Hid (w5.cell? ⟨P, 0, none⟩ = some (.pointer (some ⟨G, 0, none⟩))) := hide (cell_of_row _ _ 0 _ _ _ HTm5.out.p)
          have kG5 : w5.cell? ⟨G, 2, none⟩ = some (.slice At k ct) := cell_of_row _ _ 2 _ _ _ HTm5.out.g
          have HTm6 := hide (HTm5.out.fr0 ((Fr.refl No w5).alloc (.cells #[.string ⟨t.toArray⟩] 9)))
          have HK6 : Hid ((w5.alloc (.cells #[.string ⟨t.toArray⟩] 9)).cell? ⟨P, 0, none⟩ = some (.pointer (some ⟨G, 0, none⟩))) := hide (cell_of_row _ _ 0 _ _ _ HTm6.out.p)
          have kG6 : (w5.alloc (.cells #[.string ⟨t.toArray⟩] 9)).cell? ⟨G, 2, none⟩ = some (.slice At k ct) := cell_of_row _ _ 2 _ _ _ HTm6.out.g
          have b3 : w.heap.size ≤ (w5.alloc (.cells #[.string ⟨t.toArray⟩] 9)).heap.size := (HF5.out.alloc _).size
          have HS6 := hide (Src.one (P := Tryz.prog) w5 (e := 9) Tryz.underlying43 (.string ⟨t.toArray⟩) rfl)
          clear hrd hf hf5
          refine hK.out _ _ HK5.out (fun hS1 => ?_)
          clear hK K hS0
          have hS0 := hS1
          clear hS1
          try simp only [Act.put, List.setIfInBounds_toArray, List.set_cons_zero, List.set_cons_succ]
          refine wpAnyH_ready (rs := [7]) (by kernel_rfl) (by simp) ?_
          refine AllReadyH.cons rfl (fun K hK => ?_) AllReadyH.nil
          go_simp
          refine hK.out _ _ HK6.out (fun hS1 => ?_)
          clear hK K hS0
          have hS0 := hS1
          clear hS1
          try simp only [Act.put, List.setIfInBounds_toArray, List.set_cons_zero, List.set_cons_succ]
          refine wpAnyH_ready (rs := [8]) (by kernel_rfl) (by simp) ?_
          refine AllReadyH.cons rfl (fun K hK => ?_) AllReadyH.nil
          refine step_append_any rfl (.tmp 31) (.tmp 34) 43 43 rfl w.heap.size 9 is (.string ⟨#[]⟩) 1 16 Tryz.underlying43 his hzs hszs hbys rfl (.slice At k ct) k (svs ts) rfl HTm6.out.t _ 1 [.string ⟨t.toArray⟩] rfl HS6.out b1 b2 b3 ?_
          intro v12 w12 hown hfr
          obtain ⟨A12, c12, rfl, z1, z2, -⟩ := hown.form
          have HO12 := hide hown
          have HF12 := hide hfr
          have hg12 := hfr.blk HTm6.out.g (fun e => HTm6.out.t.ne_blk e HTm6.out.g (by decide))
          have hp12 := hfr.blk HTm6.out.p (fun e => HTm6.out.t.ne_blk e HTm6.out.p (by decide))
          have HG12 := hide hg12
          have HP12 := hide hp12
          have HK12 : Hid (w12.cell? ⟨P, 0, none⟩ = some (.pointer (some ⟨G, 0, none⟩))) := hide (cell_of_row _ _ 0 _ _ _ hp12)
          have kG12 : w12.cell? ⟨G, 2, none⟩ = some (.slice At k ct) := cell_of_row _ _ 2 _ _ _ hg12
          have fz12 : w12.frozen? ⟨G, 2, none⟩ = false := frozen_of_row _ _ _ _ _ hg12
          unfold maxLen at z2
          clear hown hfr hg12 hp12
          refine hK.out _ _ HK12.out (fun hS1 => ?_)
          clear hK K hS0
          have hS0 := hS1
          clear hS1
          try simp only [Act.put, List.setIfInBounds_toArray, List.set_cons_zero, List.set_cons_succ]
          refine wpAnyH_take (i := 9) (v := (.pointer (some ⟨G, 0, none⟩))) rfl (by kernel_rfl) (by kernel_rfl) (by kernel_rfl) (fun _ _ _ h => h) (Or.inl ⟨by rfl, fun w hSw => by go_simp⟩) (by assumption) ?_
          try simp only [Act.put, List.setIfInBounds_toArray, List.set_cons_zero, List.set_cons_succ]
          refine wpAnyH_take (i := 10) (v := (.pointer (some ⟨G, 2, none⟩))) rfl (by kernel_rfl) (by kernel_rfl) (by kernel_rfl) (fun _ _ _ h => h) (Or.inl ⟨by rfl, fun w hSw => by go_simp⟩) (by assumption) ?_
          try simp only [Act.put, List.setIfInBounds_toArray, List.set_cons_zero, List.set_cons_succ]
          refine wpAnyH_ready (rs := [11]) (by kernel_rfl) (by simp) ?_
          refine AllReadyH.cons rfl (fun K hK => ?_) AllReadyH.nil
          go_simp
          refine hK.out _ _ (((Fr.refl (Is G) w12).put 2 _).cell HK12.out HPG.out) (fun hS1 => ?_)
          clear hK K hS0
          have hS0 := hS1
          clear hS1
          try simp only [Act.put, List.setIfInBounds_toArray, List.set_cons_zero, List.set_cons_succ]
          refine wpAnyH_done (by kernel_rfl) ?_ _
          go_wp2
          go_meet
          have f9 : Fr (Is G) w12 (w12.setCell ⟨G, 2, none⟩ (.slice A12 (k + 1) c12)) := (Fr.refl (Is G) w12).put 2 _
          have r9 := heap_setCell_same w12 G 2 _ _ (.slice A12 (k + 1) c12) HG12.out
          have o6 : ∀ ty, ty ≠ 9 → Off (fun k' => (Value.slice At k ct).ownBlock = some k') (w5.alloc (.cells #[.string ⟨t.toArray⟩] 9)) ty := fun ty ht => off_own HTm6.out.t ht
          have o9 : ∀ ty, ty ≠ 83 → Off (Is G) w12 ty := fun ty ht => off_is HG12.out ht
          refine ⟨.slice A12 (k + 1) c12, hide ⟨by simpa using r9, f9.blk HP12.out HPG.out, ?_⟩, hide ((((HRd5.out.fr0 ((Fr.refl No w5).alloc _)).offT HF12.out (o6 _ (by decide)) (o6 _ (by decide)))).offT f9 (o9 _ (by decide)) (o9 _ (by decide))), hide ?_⟩
          · rw [svs_snoc]
            exact HO12.out.off f9 (o9 _ (by decide))
          · have h8 : Fr No w w12 := (HF5.out.alloc _).own HF12.out (fun g hg => .inl (HTm6.out.t.lt g hg).1)
            exact h8.trans f9 (fun i hi e => by have e : i = G := e; have := HG.out; omega)
        · go_simp
          go_at_call 51
          refine (HTx.out _ (HRd.out.fr0 ((Fr.refl No wo).drew))).mono ?_
          rintro en w5 ⟨rfl, hrd, hf⟩
          have HRd5 := hide hrd
          have hf5 : Fr (Is g) wo w5 := Fr.of_drewN (n := 1) hf
          have HTm5 := hide (HTm.out.rd HRd.out hf5)
          have HF55 := hide hf5
          have HF5 : Hid (Fr No w w5) := hide (HF.out.trans hf5 (fun i hi e => by have e : i = g := e; have := HGg.out; omega))
          have HK5 : Hid (w5.cell? ⟨P, 0, none⟩ = some (.pointer (some ⟨G, 0, none⟩))) := hide (cell_of_row _ _ 0 _ _ _ HTm5.out.p)
          have kG5 : w5.cell? ⟨G, 2, none⟩ = some (.slice At k ct) := cell_of_row _ _ 2 _ _ _ HTm5.out.g
          have HTm6 := hide (HTm5.out.fr0 ((Fr.refl No w5).alloc (.cells #[.string ⟨t.toArray⟩] 9)))
          have HK6 : Hid ((w5.alloc (.cells #[.string ⟨t.toArray⟩] 9)).cell? ⟨P, 0, none⟩ = some (.pointer (some ⟨G, 0, none⟩))) := hide (cell_of_row _ _ 0 _ _ _ HTm6.out.p)
          have kG6 : (w5.alloc (.cells #[.string ⟨t.toArray⟩] 9)).cell? ⟨G, 2, none⟩ = some (.slice At k ct) := cell_of_row _ _ 2 _ _ _ HTm6.out.g
          have b3 : w.heap.size ≤ (w5.alloc (.cells #[.string ⟨t.toArray⟩] 9)).heap.size := (HF5.out.alloc _).size
          have HS6 := hide (Src.one (P := Tryz.prog) w5 (e := 9) Tryz.underlying43 (.string ⟨t.toArray⟩) rfl)
          clear hrd hf hf5
          refine hK.out _ _ HK5.out (fun hS1 => ?_)
          clear hK K hS0
          have hS0 := hS1
          clear hS1
          try simp only [Act.put, List.setIfInBounds_toArray, List.set_cons_zero, List.set_cons_succ]
          refine wpAnyH_ready (rs := [4, 7]) (by kernel_rfl) (by simp) ?_
          refine AllReadyH.cons rfl (fun K hK => ?_) (AllReadyH.cons rfl (fun K hK => ?_) AllReadyH.nil)
          · go_simp
            refine hK.out _ _ HK5.out (fun hS1 => ?_)
            clear hK K hS0
            have hS0 := hS1
            clear hS1
            try simp only [Act.put, List.setIfInBounds_toArray, List.set_cons_zero, List.set_cons_succ]
            refine wpAnyH_ready (rs := [7]) (by kernel_rfl) (by simp) ?_
            refine AllReadyH.cons rfl (fun K hK => ?_) AllReadyH.nil
            go_simp
            refine hK.out _ _ HK6.out (fun hS1 => ?_)
            clear hK K hS0
            have hS0 := hS1
            clear hS1
            try simp only [Act.put, List.setIfInBounds_toArray, List.set_cons_zero, List.set_cons_succ]
            refine wpAnyH_ready (rs := [8]) (by kernel_rfl) (by simp) ?_
            refine AllReadyH.cons rfl (fun K hK => ?_) AllReadyH.nil
            refine step_append_any rfl (.tmp 31) (.tmp 34) 43 43 rfl w.heap.size 9 is (.string ⟨#[]⟩) 1 16 Tryz.underlying43 his hzs hszs hbys rfl (.slice At k ct) k (svs ts) rfl HTm6.out.t _ 1 [.string ⟨t.toArray⟩] rfl HS6.out b1 b2 b3 ?_
            intro v12 w12 hown hfr
            obtain ⟨A12, c12, rfl, z1, z2, -⟩ := hown.form
            have HO12 := hide hown
            have HF12 := hide hfr
            have hg12 := hfr.blk HTm6.out.g (fun e => HTm6.out.t.ne_blk e HTm6.out.g (by decide))
            have hp12 := hfr.blk HTm6.out.p (fun e => HTm6.out.t.ne_blk e HTm6.out.p (by decide))
            have HG12 := hide hg12
            have HP12 := hide hp12
            have HK12 : Hid (w12.cell? ⟨P, 0, none⟩ = some (.pointer (some ⟨G, 0, none⟩))) := hide (cell_of_row _ _ 0 _ _ _ hp12)
            have kG12 : w12.cell? ⟨G, 2, none⟩ = some (.slice At k ct) := cell_of_row _ _ 2 _ _ _ hg12
            have fz12 : w12.frozen? ⟨G, 2, none⟩ = false := frozen_of_row _ _ _ _ _ hg12
            unfold maxLen at z2
            clear hown hfr hg12 hp12
            refine hK.out _ _ HK12.out (fun hS1 => ?_)
            clear hK K hS0
            have hS0 := hS1
            clear hS1
            try simp only [Act.put, List.setIfInBounds_toArray, List.set_cons_zero, List.set_cons_succ]
            refine wpAnyH_take (i := 9) (v := (.pointer (some ⟨G, 0, none⟩))) rfl (by kernel_rfl) (by kernel_rfl) (by kernel_rfl) (fun _ _ _ h => h) (Or.inl ⟨by rfl, fun w hSw => by go_simp⟩) (by assumption) ?_
            try simp only [Act.put, List.setIfInBounds_toArray, List.set_cons_zero, List.set_cons_succ]
            refine wpAnyH_take (i := 10) (v := (.pointer (some ⟨G, 2, none⟩))) rfl (by kernel_rfl) (by kernel_rfl) (by kernel_rfl) (fun _ _ _ h => h) (Or.inl ⟨by rfl, fun w hSw => by go_simp⟩) (by assumption) ?_
            try simp only [Act.put, List.setIfInBounds_toArray, List.set_cons_zero, List.set_cons_succ]
            refine wpAnyH_ready (rs := [11]) (by kernel_rfl) (by simp) ?_
            refine AllReadyH.cons rfl (fun K hK => ?_) AllReadyH.nil
            go_simp
            refine hK.out _ _ (((Fr.refl (Is G) w12).put 2 _).cell HK12.out HPG.out) (fun hS1 => ?_)
            clear hK K hS0
            have hS0 := hS1
            clear hS1
            try simp only [Act.put, List.setIfInBounds_toArray, List.set_cons_zero, List.set_cons_succ]
            refine wpAnyH_done (by kernel_rfl) ?_ _
            go_wp2
            go_meet
            have f9 : Fr (Is G) w12 (w12.setCell ⟨G, 2, none⟩ (.slice A12 (k + 1) c12)) := (Fr.refl (Is G) w12).put 2 _
            have r9 := heap_setCell_same w12 G 2 _ _ (.slice A12 (k + 1) c12) HG12.out
            have o6 : ∀ ty, ty ≠ 9 → Off (fun k' => (Value.slice At k ct).ownBlock = some k') (w5.alloc (.cells #[.string ⟨t.toArray⟩] 9)) ty := fun ty ht => off_own HTm6.out.t ht
            have o9 : ∀ ty, ty ≠ 83 → Off (Is G) w12 ty := fun ty ht => off_is HG12.out ht
            refine ⟨.slice A12 (k + 1) c12, hide ⟨by simpa using r9, f9.blk HP12.out HPG.out, ?_⟩, hide ((((HRd5.out.fr0 ((Fr.refl No w5).alloc _)).offT HF12.out (o6 _ (by decide)) (o6 _ (by decide)))).offT f9 (o9 _ (by decide)) (o9 _ (by decide))), hide ?_⟩
            · rw [svs_snoc]
              exact HO12.out.off f9 (o9 _ (by decide))
            · have h8 : Fr No w w12 := (HF5.out.alloc _).own HF12.out (fun g hg => .inl (HTm6.out.t.lt g hg).1)
              exact h8.trans f9 (fun i hi e => by have e : i = G := e; have := HG.out; omega)
          · go_simp
            refine hK.out _ _ HK6.out (fun hS1 => ?_)
            clear hK K hS0
            have hS0 := hS1
            clear hS1
            try simp only [Act.put, List.setIfInBounds_toArray, List.set_cons_zero, List.set_cons_succ]
            refine wpAnyH_ready (rs := [4]) (by kernel_rfl) (by simp) ?_
            refine AllReadyH.cons rfl (fun K hK => ?_) AllReadyH.nil
            go_simp
            refine hK.out _ _ HK6.out (fun hS1 => ?_)
            clear hK K hS0
            have hS0 := hS1
            clear hS1
            try simp only [Act.put, List.setIfInBounds_toArray, List.set_cons_zero, List.set_cons_succ]
            refine wpAnyH_ready (rs := [8]) (by kernel_rfl) (by simp) ?_
            refine AllReadyH.cons rfl (fun K hK => ?_) AllReadyH.nil
            refine step_append_any rfl (.tmp 31) (.tmp 34) 43 43 rfl w.heap.size 9 is (.string ⟨#[]⟩) 1 16 Tryz.underlying43 his hzs hszs hbys rfl (.slice At k ct) k (svs ts) rfl HTm6.out.t _ 1 [.string ⟨t.toArray⟩] rfl HS6.out b1 b2 b3 ?_
            intro v12 w12 hown hfr
            obtain ⟨A12, c12, rfl, z1, z2, -⟩ := hown.form
            have HO12 := hide hown
            have HF12 := hide hfr
            have hg12 := hfr.blk HTm6.out.g (fun e => HTm6.out.t.ne_blk e HTm6.out.g (by decide))
            have hp12 := hfr.blk HTm6.out.p (fun e => HTm6.out.t.ne_blk e HTm6.out.p (by decide))
            have HG12 := hide hg12
            have HP12 := hide hp12
            have HK12 : Hid (w12.cell? ⟨P, 0, none⟩ = some (.pointer (some ⟨G, 0, none⟩))) := hide (cell_of_row _ _ 0 _ _ _ hp12)
            have kG12 : w12.cell? ⟨G, 2, none⟩ = some (.slice At k ct) := cell_of_row _ _ 2 _ _ _ hg12
            have fz12 : w12.frozen? ⟨G, 2, none⟩ = false := frozen_of_row _ _ _ _ _ hg12
            unfold maxLen at z2
            clear hown hfr hg12 hp12
            refine hK.out _ _ HK12.out (fun hS1 => ?_)
            clear hK K hS0
            have hS0 := hS1
            clear hS1
            try simp only [Act.put, List.setIfInBounds_toArray, List.set_cons_zero, List.set_cons_succ]
            refine wpAnyH_take (i := 9) (v := (.pointer (some ⟨G, 0, none⟩))) rfl (by kernel_rfl) (by kernel_rfl) (by kernel_rfl) (fun _ _ _ h => h) (Or.inl ⟨by rfl, fun w hSw => by go_simp⟩) (by assumption) ?_
            try simp only [Act.put, List.setIfInBounds_toArray, List.set_cons_zero, List.set_cons_succ]
            refine wpAnyH_take (i := 10) (v := (.pointer (some ⟨G, 2, none⟩))) rfl (by kernel_rfl) (by kernel_rfl) (by kernel_rfl) (fun _ _ _ h => h) (Or.inl ⟨by rfl, fun w hSw => by go_simp⟩) (by assumption) ?_
            try simp only [Act.put, List.setIfInBounds_toArray, List.set_cons_zero, List.set_cons_succ]
            refine wpAnyH_ready (rs := [11]) (by kernel_rfl) (by simp) ?_
            refine AllReadyH.cons rfl (fun K hK => ?_) AllReadyH.nil
            go_simp
            refine hK.out _ _ (((Fr.refl (Is G) w12).put 2 _).cell HK12.out HPG.out) (fun hS1 => ?_)
            clear hK K hS0
            have hS0 := hS1
            clear hS1
            try simp only [Act.put, List.setIfInBounds_toArray, List.set_cons_zero, List.set_cons_succ]
            refine wpAnyH_done (by kernel_rfl) ?_ _
            go_wp2
            go_meet
            have f9 : Fr (Is G) w12 (w12.setCell ⟨G, 2, none⟩ (.slice A12 (k + 1) c12)) := (Fr.refl (Is G) w12).put 2 _
            have r9 := heap_setCell_same w12 G 2 _ _ (.slice A12 (k + 1) c12) HG12.out
            have o6 : ∀ ty, ty ≠ 9 → Off (fun k' => (Value.slice At k ct).ownBlock = some k') (w5.alloc (.cells #[.string ⟨t.toArray⟩] 9)) ty := fun ty ht => off_own HTm6.out.t ht
            have o9 : ∀ ty, ty ≠ 83 → Off (Is G) w12 ty := fun ty ht => off_is HG12.out ht
            refine ⟨.slice A12 (k + 1) c12, hide ⟨by simpa using r9, f9.blk HP12.out HPG.out, ?_⟩, hide ((((HRd5.out.fr0 ((Fr.refl No w5).alloc _)).offT HF12.out (o6 _ (by decide)) (o6 _ (by decide)))).offT f9 (o9 _ (by decide)) (o9 _ (by decide))), hide ?_⟩
            · rw [svs_snoc]
              exact HO12.out.off f9 (o9 _ (by decide))
            · have h8 : Fr No w w12 := (HF5.out.alloc _).own HF12.out (fun g hg => .inl (HTm6.out.t.lt g hg).1)
              exact h8.trans f9 (fun i hi e => by have e : i = G := e; have := HG.out; omega)
      case rest =>
        obtain ⟨vt', HTm9, HRd9, HF9⟩ := hcut
        refine hK _ _ ?_
        clear hK kP kG HTm HRd HF b1 b2
        go_wp2_with (fail)
        go_roundw
        case rel => exact ⟨k + 1, m1, a', e', vt', ts ++ [t], by go_num, by omega, hide (by rw [List.length_append, ← HKl.out]; rfl), HTt', HF9, HRd9, HTm9⟩
        case measure => simp [intOf]; omega
    · have htT : tT bs = (ts, a, e) := by
        rw [HTt.out]
        cases m' with
        | zero => simp [txsS]
        | succ m1 =>
          have he : e ≠ 0 := fun h => hgo ⟨by omega, h⟩
          simp [txsS, he]
      have HTf := hide htT
      clear HTt htT
      go_upto_region 4 with (fail)
      refine wp_named fun K hK => ?_
      go_cut [24] from 18 to 24 (fun v wx => v = .bool false ∧ wo = wx)
      case first =>
        by_cases hm0 : 0 < m'
        · have he : (e == 0) = false := by
            have : e ≠ 0 := fun h => hgo ⟨hm0, h⟩
            simpa using this
          have d0 : decide (0 < m') = true := decide_eq_true hm0
          have d1 : decide ((0 : Int) < (m' : Int)) = true := decide_eq_true (by omega)
          clear hgo
          go_wp2_with (go_at_call 50; refine HEr.out.mono ?_; rintro en w' ⟨rfl, rfl⟩)
          go_meet
          exact ⟨rfl, rfl⟩
        · obtain rfl : m' = 0 := by omega
          clear hgo hm0
          go_wp2
          go_meet
          exact ⟨rfl, rfl⟩
      case rest =>
        obtain ⟨rfl, rfl⟩ := hcut
        refine hK _ _ ?_
        clear hK hgo
        obtain ⟨At, ct, rfl, y1, y2, -⟩ := HTm.out.t.form
        unfold maxLen at y2
        by_cases he : e = 0
        · subst he
          have hal : a ≤ bs.length := by
            obtain ⟨_, _, _, _, _, h4, _⟩ := HRd.out
            exact h4
          obtain ⟨rl, hrl⟩ : ∃ x, x = bs.length - a := ⟨_, rfl⟩
          obtain ⟨rest, hrest⟩ : ∃ x, x = bs.drop a := ⟨_, rfl⟩
          have hrT : restT bs = rest := by rw [restT, HTf.out, hrest]
          have hrestl : rest.length = rl := by rw [hrest, hrl, List.length_drop]
          have hrlm : rl ≤ m := by have := HL.out; omega
          have hbyt : bytesS bs a 0 (rl : Nat) = (rest, a + rl, 0) := by
            rw [bS_ok (by omega), ← hrest, List.take_of_length_le (by omega)]
          have HLf := hide (fun W (h : RD W g bs a 0) => left_any g bs a 0 W h)
          rw [← hrl] at HLf
          have HBy := hide (fun W (h : RD W g bs a 0) => bytes_any g bs a 0 (rl : Nat) W h)
          rw [hbyt] at HBy
          dsimp only at HBy
          have HRl := hide hrestl
          have HRT := hide hrT
          have HRead := hide (fun (A' : Option Addr) (c' : Nat) W h1 h2 h3 => read_any A' rl c' W.heap.size rest W hrestl h1 h2 (by omega) (Nat.le_refl _) h3)
          clear hal hrl hrest hrT hrestl hbyt
          have kP : wo.drew.cell? ⟨P, 0, none⟩ = some (.pointer (some ⟨G, 0, none⟩)) := cell_of_row _ _ 0 _ _ _ HTm.out.p
          go_upto_region 10 with (go_at_call 50; refine HEr.out.mono ?_; rintro en w' ⟨rfl, rfl⟩)
          refine wp_named fun K hK => ?_
          go_cut [7] from 41 to 51 (fun v7 wz => ∃ A1 n1 c1 A2 n2 c2 b, v7 = .bool b ∧ Hid (wz.heap[G]? = some (.cells #[.slice A1 n1 c1, .slice A2 n2 c2, .slice At k ct] 83 (0, 0))) ∧ Hid (wz.heap[P]? = some (.cells #[.pointer (some ⟨G, 0, none⟩)] 35 (0, 0))) ∧ Hid (Own wz w.heap.size 9 1 (.slice At k ct) k (svs ts)) ∧ Hid (Fr No w wz) ∧
            Hid (b = true → rdOk rest ∧ n1 = nV rest ∧ n2 = (aV rest).1.length ∧ Own wz w.heap.size 3 1 (.slice A1 n1 c1) n1 (iz .i64 (endsV (bV rest).1 (lV rest).1 (nV rest))) ∧ Own wz w.heap.size 2 1 (.slice A2 n2 c2) n2 (iz .i64 (aV rest).1)) ∧ Hid (b = false → ¬ rdOk rest))
          case first =>
            have HK0 := hide kP
            have HPG : Hid (¬ Is G P) := hide (fun e => by have e : P = G := e; have := HG.out; have := HP.out; omega)
            go_region_held3 (fun W => W.cell? ⟨P, 0, none⟩ = some (.pointer (some ⟨G, 0, none⟩))) (first | with_reducible exact (((Fr.refl (Is G) w7).put 0 _).put 1 _).cell HK7.out HPG.out | with_reducible exact HK7.out | with_reducible exact HK6.out | with_reducible exact HK5.out | with_reducible exact HK0.out) (first
              | (go_at_call 53; refine (HLf.out _ (HRd.out.fr0 ((Fr.refl No wo).drew))).mono ?_; rintro en w5 ⟨rfl, nq, hw5⟩; have hf5 : Fr No wo w5 := (by rw [hw5]; exact ((Fr.refl No wo).drew).drewN nq); have HRd5 := hide (HRd.out.fr0 hf5); have HTm5 := hide (HTm.out.fr0 hf5); have HF5 := hide (HF.out.tr hf5); have HK5 : Hid (w5.cell? ⟨P, 0, none⟩ = some (.pointer (some ⟨G, 0, none⟩))) := hide (cell_of_row _ _ 0 _ _ _ HTm5.out.p); clear hw5 hf5)
              | (go_at_call 52; refine (HBy.out _ HRd5.out).mono ?_; rintro en w6 ⟨v6, rfl, hown, hrd, hf⟩; rw [HRl.out] at hown; obtain ⟨A6, c6, rfl, p1, p2, _, p3, _⟩ := hown.form; have HTm6 := hide (HTm5.out.rd HRd5.out hf); have HF6 : Hid (Fr No w w6) := hide (HF5.out.trans hf (fun i hi e => by have e : i = g := e; have := HGg.out; omega)); have HK6 : Hid (w6.cell? ⟨P, 0, none⟩ = some (.pointer (some ⟨G, 0, none⟩))) := hide (cell_of_row _ _ 0 _ _ _ HTm6.out.p); have HRe := hide (HRead.out A6 c6 w6 p1 p2 p3); unfold maxLen at p2; clear hown hrd hf p3)
              | (go_at_call 38; refine HRe.out.mono ?_; intro en w7 hrp; obtain ⟨A1, n1, c1, A2, n2, c2, b, rfl, hf, hyes, hno⟩ := hrp.uni; have HTm7 := hide (HTm6.out.fr0 hf); have HF7 := hide (HF6.out.tr hf); have HYes := hide hyes; have HNoB := hide hno; have hg7 := HTm7.out.g; have HK7 : Hid (w7.cell? ⟨P, 0, none⟩ = some (.pointer (some ⟨G, 0, none⟩))) := hide (cell_of_row _ _ 0 _ _ _ HTm7.out.p); have g0 : w7.cell? ⟨G, 0, none⟩ = some (.slice none 0 0) := cell_of_row _ _ 0 _ _ _ hg7; have g1 : w7.cell? ⟨G, 1, none⟩ = some (.slice none 0 0) := cell_of_row _ _ 1 _ _ _ hg7; have z0 : w7.frozen? ⟨G, 0, none⟩ = false := frozen_of_row _ _ _ _ _ hg7; have z1 : w7.frozen? ⟨G, 1, none⟩ = false := frozen_of_row _ _ _ _ _ hg7; have HSz6 : Hid (w.heap.size ≤ w6.heap.size) := hide HF6.out.size; clear hrp hf hyes hno hg7))
            all_goals (go_wp2; go_meet)
            all_goals (
              have f9 : Fr (Is G) w7 ((w7.setCell ⟨G, 0, none⟩ (.slice A1 n1 c1)).setCell ⟨G, 1, none⟩ (.slice A2 n2 c2)) := ((Fr.refl (Is G) w7).put 0 _).put 1 _
              have r1 := heap_setCell_same w7 G 0 _ _ (.slice A1 n1 c1) HTm7.out.g
              have r2 := heap_setCell_same _ G 1 _ _ (.slice A2 n2 c2) r1
              have o9 : ∀ ty, ty ≠ 83 → Off (Is G) w7 ty := fun ty ht => off_is HTm7.out.g ht
              refine ⟨A1, n1, c1, A2, n2, c2, b, rfl, hide (by simpa using r2), hide (f9.blk HTm7.out.p HPG.out), hide (HTm7.out.t.off f9 (o9 _ (by decide))), hide (HF7.out.trans f9 (fun i hi e => by have e : i = G := e; have := HG.out; omega)), hide (fun hb => ?_), HNoB⟩
              obtain ⟨q1, q2, q3, q4, q5⟩ := HYes.out hb
              exact ⟨q1, q2, q3, (q4.off f9 (o9 _ (by decide))).lower HSz6.out, (q5.off f9 (o9 _ (by decide))).lower HSz6.out⟩)
          case rest =>
            obtain ⟨A1, n1, c1, A2, n2, c2, b, rfl, HGb, HPb, HOt, HFz, HYes, HNoB⟩ := hcut
            obtain ⟨w8, rfl⟩ : ∃ W : World, W = wc := ⟨_, rfl⟩
            refine hK _ _ ?_
            clear hK kP HLf HBy HRead HTm HRd HF HEr
            cases b with
            | false =>
              have HNo : Hid (¬ accT bs) := hide (fun h => by have h1 := h.2.1; rw [HRT.out] at h1; exact HNoB.out rfl h1)
              go_wp2
              go_ret2
              exact ⟨HFz.out, .inl ⟨HNo.out, rfl⟩⟩
            | true =>
              obtain ⟨hok, hn1, hn2, o1, o2⟩ := HYes.out rfl
              have hfit := fitV hok
              have hn16 := nV_le rest
              have hal := (show (aV rest).1.length ≤ 1048576 by
                rcases getZ_cases ((restV rest).drop (lV rest).2.1) (sV rest : Nat) with h1 | h1
                · unfold aV; rw [h1.2.1]; simp
                · have h2 := h1.2.1; have h3 := h1.2.2.1; unfold aV; omega)
              have hin := aV_in rest
              have hflat := all_flat hok
              have hrok := rdV_ok hok
              have HRows : Hid (rowsV (bV rest).1 (lV rest).1 (aV rest).1 (nV rest) = rdV rest) := hide rfl
              obtain ⟨bits, hbits⟩ : ∃ x, x = (bV rest).1 := ⟨_, rfl⟩
              obtain ⟨lens, hlens⟩ : ∃ x, x = (lV rest).1 := ⟨_, rfl⟩
              obtain ⟨all, hall⟩ : ∃ x, x = (aV rest).1 := ⟨_, rfl⟩
              obtain ⟨n9, hn9⟩ : ∃ x, x = nV rest := ⟨_, rfl⟩
              rw [← hbits, ← hlens, ← hall, ← hn9] at HRows hfit
              rw [← hall] at hn2 hal o2 hin hflat
              rw [← hbits, ← hlens, ← hn9] at o1
              rw [← hn9] at hn1 hn16
              subst hn1
              have HOk := hide hok
              have HAll := hide hall
              have HN9 := hide hn9
              have HFlat := hide hflat
              have HROk := hide hrok
              have HCol : Hid (ColT w8 w.heap.size G bits lens all n1 ts) := hide ⟨⟨⟨_, _, cell_of_row _ _ 0 _ _ _ HGb.out, cell_of_row _ _ 1 _ _ _ HGb.out, o1, by rw [← hn2]; exact o2⟩, hfit, by rw [HG.out]; exact Nat.le_refl _⟩, At, ct, by rw [← HKl.out]; exact cell_of_row _ _ 2 _ _ _ HGb.out, by rw [← HKl.out]; exact HOt.out⟩
              have kP : w8.cell? ⟨P, 0, none⟩ = some (.pointer (some ⟨G, 0, none⟩)) := cell_of_row _ _ 0 _ _ _ HPb.out
              have k1 : w8.cell? ⟨G, 1, none⟩ = some (.slice A2 n2 c2) := cell_of_row _ _ 1 _ _ _ HGb.out
              have HCo := hide (containsBad_any (w := w8) (P := P) (G := G) (tk := k) (ct := ct) (At := At) kP (cell_of_row _ _ 2 _ _ _ HGb.out) (by omega) A2 n2 c2 w8.heap.size all hn2.symm hin o2.le.2.1 o2.le.2.2 (by omega) o2.rd)
              have HKP := hide kP
              obtain ⟨zz1, zz2⟩ := o2.le.2
              unfold maxLen at zz2
              have HN2 := hide hn2
              clear hok hfit hin hflat hrok hbits hlens hall hn9 o1 o2 hal HYes HNoB hn2
              go_wp2_with (fail)
              refine HCo.out.mono ?_
              rintro en w' ⟨rfl, ⟨rfl, hgood⟩ | ⟨rfl, hex⟩⟩ <;> obtain ⟨w8, rfl⟩ : ∃ W : World, W = w' := ⟨_, rfl⟩
              · have hgood2 : ∀ x ∈ all, 0 ≤ x ∧ x < (ts.length : Int) := fun x hx => by
                  have h1 := hgood x hx
                  unfold badK at h1
                  rw [← HKl.out]
                  omega
                have HGood := hide hgood
                have HGood2 := hide hgood2
                have HLen := hide (txLen_any HCol.out)
                clear hgood hgood2 HCo
                obtain ⟨i1, hi1, hz1, hsz1, hby1⟩ := info_parts Tryz.infoRT
                go_wp2_with (fail)
                refine HLen.out.mono ?_
                rintro en w' ⟨rfl, rfl⟩
                go_wp2_with (fail)
                go_loopw [8, 65] (fun v i wr => ∃ (q : Nat) (vals : List Value), q ≤ n1 ∧ i = .int .i64 (q : Nat) ∧ Hid (Fr No w8 wr) ∧ Hid (Own wr w8.heap.size 43 1 v q vals) ∧ Hid (ValsT wr w8.heap.size vals ((rowsV bits lens all q).map (pickT ts)))) (fun _ i _ => n1 - (intOf i).toNat)
                case atStart => exact ⟨0, [], by omega, by go_num, hide (Fr.refl _ _), hide (Own.nil _ _ _ _), hide (by simpa [rowsV] using ValsT.nil _ _)⟩
                case round =>
                  obtain ⟨wq, rfl⟩ : ∃ wo : World, wo = wr := ⟨_, rfl⟩
                  obtain ⟨q, vals, hq, rfl, HFq, HOq, HVq⟩ := hrel
                  have kPq := HFq.out.cell HKP.out (fun h => h)
                  by_cases hlt : q < n1
                  · have hmem : rowV bits lens all q ∈ rdV rest := by
                      rw [← HRows.out]
                      exact List.mem_map.2 ⟨q, List.mem_range.2 hlt, rfl⟩
                    have h64 := HROk.out.2 _ hmem
                    have hrg : ∀ x ∈ rowV bits lens all q, 0 ≤ x ∧ x < (ts.length : Int) := fun x hx => HGood2.out x (List.mem_of_mem_drop (List.mem_of_mem_take hx))
                    have HRw := hide (txRow_in (HCol.out.fr0 HFq.out) hlt hn16 h64 hrg)
                    obtain ⟨row, hrow⟩ : ∃ x, x = pickT ts (rowV bits lens all q) := ⟨_, rfl⟩
                    obtain ⟨li, hli⟩ : ∃ x, x = row.length := ⟨_, rfl⟩
                    rw [← hrow] at HRw
                    have HSnoc : Hid ((rowsV bits lens all (q + 1)).map (pickT ts) = (rowsV bits lens all q).map (pickT ts) ++ [row]) := hide (by rw [rowsV_succ, List.map_append, hrow]; rfl)
                    have HLi := hide hli
                    have hws := HFq.out.size
                    have b1 : (q + 1) * 24 ≤ 140737488355328 := by omega
                    have b2 : q + 1 ≤ maxLen := by unfold maxLen; omega
                    clear hmem h64 hrg hrow hli
                    go_wp2_with (first
                      | (go_at_call 18; refine HRw.out.mono ?_; rintro en w3 ⟨v2, rfl, hown, hfr⟩; rw [← HLi.out] at hown; obtain ⟨A2', c2', rfl, q1, q2, _⟩ := hown.form; have HO3 := hide hown; have HF3 := hide hfr; have HF03 : Hid (Fr No w8 w3) := hide (HFq.out.tr hfr); have HV3 := hide (HVq.out.fr0 hfr); have HOut := hide ((HOq.out.fr0 hfr).fr0 ((Fr.refl No w3).alloc (.cells #[.slice A2' li c2'] 43))); have hz3 : w8.heap.size ≤ (w3.alloc (.cells #[.slice A2' li c2'] 43)).heap.size := (HF03.out.alloc _).size; unfold maxLen at q2; clear hown hfr)
                      | (at_builtin; refine wpList_append_gen _ rfl (.tmp 68) (.tmp 72) 23 23 rfl w8.heap.size 43 i1 (.slice none 0 0) 1 24 Tryz.underlying23 hi1 hz1 hsz1 hby1 rfl u8 q _ rfl HOut.out _ 1 [.slice A2' li c2'] rfl (src_rowT w3 A2' li c2') b1 b2 hz3 ?_; intro v5 w5 hown hfr hat; have HO5 := hide hown; have HFa := hide hfr; clear hown hfr hat))
                    go_roundw
                    case rel =>
                      have hV3 := HV3.out.fr0 ((Fr.refl No w3).alloc (.cells #[.slice A2' li c2'] 43))
                      have hO3 := HO3.out.fr0 ((Fr.refl No w3).alloc (.cells #[.slice A2' li c2'] 43))
                      refine ⟨q + 1, vals ++ [.slice A2' li c2'], by omega, by go_num, hide ((HF03.out.alloc _).own HFa.out (fun g hg => .inl (HOut.out.lt g hg).1)), HO5, hide ?_⟩
                      rw [HSnoc.out]
                      refine ValsT.snoc (w0 := wq) HVq.out ?_ ?_ hws
                      · exact hV3.fr HFa.out (fun j v hv i hi e => by
                          obtain ⟨bs, _, ho⟩ := hV3.get hv
                          exact ho.apart HOut.out (by decide) i hi e)
                      · rw [← HLi.out]
                        exact hO3.fr HFa.out (fun i hi e => hO3.apart HOut.out (by decide) i hi e)
                    case measure => simp [intOf]; omega
                  · obtain rfl : q = n1 := by omega
                    have hrt : (rowsV bits lens all q).map (pickT ts) = rdT bs := by rw [HRows.out, rdT, HRT.out, HTf.out]
                    have hrl : (rdT bs).length = q := by rw [← hrt]; simp [rowsV]
                    rw [hrt] at HVq
                    obtain ⟨A4, c4, rfl, q1, q2, _, q3, _⟩ := HOq.out.form
                    have HTx := hide (texts12_any A4 q c4 wq.heap.size (rdT bs) wq hrl q1 q2 (Nat.le_refl _) (HVq.out.isl q3))
                    have HFq2 := hide (HFz.out.tr HFq.out)
                    obtain ⟨ks, hks⟩ : ∃ x, x = keptT (rdT bs) := ⟨_, rfl⟩
                    obtain ⟨m5, hm5⟩ : ∃ x, x = ks.length := ⟨_, rfl⟩
                    rw [← hks] at HTx
                    have HKs := hide hks
                    have HM5 := hide hm5
                    unfold maxLen at q2
                    clear hrt hrl q3 hks hm5 hlt
                    go_wp2_with (fail)
                    refine HTx.out.mono ?_
                    rintro en w4 ⟨v5, rfl, hob, hf⟩
                    rw [← HM5.out] at hob
                    obtain ⟨A5, c5, rfl, x5, x6, _⟩ := hob.form
                    have HF4 := hide (HFq2.out.tr hf)
                    have HF84 := hide (HFq.out.tr hf)
                    have HEq := hide (sleq_any A5 A m5 c5 m c w4.heap.size B ks bs w4 HM5.out.symm HL.out x5 x6 hn hc' hob.rd (HR.out.fr0 HF4.out))
                    unfold maxLen at x6
                    clear hf hob HTx
                    go_wp2_with (fail)
                    refine HEq.out.mono ?_
                    rintro en w5 ⟨rfl, nq, hw5⟩
                    have hf5 : Fr No w4 w5 := by rw [hw5]; exact (Fr.refl No w4).drewN nq
                    have HF5 := hide (HF4.out.tr hf5)
                    have HCol5 := hide (HCol.out.fr0 (HF84.out.tr hf5))
                    have kP5 := (HF84.out.tr hf5).cell HKP.out (fun h => h)
                    clear hw5 hf5 HEq kPq
                    by_cases he : ks = bs
                    · have d0 : decide (ks = bs) = true := decide_eq_true he
                      have HE := hide he
                      rw [d0]
                      clear he d0
                      go_wp2
                      go_ret2
                      refine ⟨HF5.out, .inr ⟨⟨by rw [HTf.out], by rw [HRT.out]; exact HOk.out, fun x hx => ?_, by rw [← HKs.out]; exact HE.out⟩, G, bits, lens, all, rfl, ?_, ?_⟩⟩
                      · rw [HRT.out, ← HAll.out] at hx
                        rw [HTf.out, ← HKl.out]
                        exact HGood.out x hx
                      · rw [HRT.out, ← HN9.out, HTf.out]
                        exact HCol5.out
                      · rw [HRT.out, ← HN9.out]
                        exact HRows.out
                    · have d0 : decide (ks = bs) = false := decide_eq_false he
                      have HE := hide he
                      rw [d0]
                      clear he d0
                      go_wp2
                      go_ret2
                      exact ⟨HF5.out, .inl ⟨fun h => HE.out (by rw [HKs.out]; exact h.2.2.2), rfl⟩⟩
              · have HNo : Hid (¬ accT bs) := hide (fun h => by
                  obtain ⟨x, hx, hb⟩ := hex
                  have h3 := h.2.2.1 x (by rw [HRT.out, ← HAll.out]; exact hx)
                  rw [HTf.out, ← HKl.out] at h3
                  exact h3 hb)
                clear hex
                go_wp2
                go_ret2
                exact ⟨HFz.out, .inl ⟨HNo.out, rfl⟩⟩
        · have hne : (e != 0) = true := by simpa using he
          have HNo : Hid (¬ accT bs) := hide (fun h => he (by have h1 := h.1; rw [HTf.out] at h1; exact h1))
          clear he
          go_wp2_with (go_at_call 50; refine HEr.out.mono ?_; rintro en w' ⟨rfl, rfl⟩)
          go_ret2
          exact ⟨HF.out, .inl ⟨HNo.out, rfl⟩⟩
end Go.Proofs.YtnjcncidlhllmaaGreat
namespace Go.Proofs.YtnjcncidlhllmaaGreat
set_option linter.unusedVariables false
set_option linter.unusedSimpArgs false
open Go.RowKit

def numW : Option (Nat × Nat) → Value
  | none => .tuple #[.int .u64 0, .int .i64 0]
  | some (u, k) => .tuple #[.int .u64 u, .int .i64 k]

theorem gv_lt (bs : List UInt8) (k j : Nat) : gv bs k j < 18446744073709551616 := Nat.mod_lt _ (by omega)

set_option maxRecDepth 100000 in
set_option maxHeartbeats 1600000 in
theorem refNumber_any (A : Option Addr) (n c B : Nat) (bs : List UInt8) (w : World) (hl : bs.length = n) (hn : n ≤ c) (hc : c ≤ maxLen) (hB : B ≤ w.heap.size) (hr : Rd w B A (by8 bs)) :
    Calls Tryz.prog 90 #[.slice A n c] w (RetF (numW (dec 0 0 bs)) w) := by
  unfold maxLen at hc
  have HR := hide hr
  have HB := hide hB
  have HL := hide hl
  clear hr hB hl
  go_enter Tryz.func90, Tryz.ntmps90
  go_wp2
  go_loop [4] (fun i => ∃ k : Nat, k ≤ n ∧ i = .int .i64 k ∧ Hid (lead bs = k + lead (bs.drop k))) (fun i => n - (intOf i).toNat)
  case atStart => exact ⟨0, by omega, rfl, hide (by simp)⟩
  case round =>
    obtain ⟨k, hk, rfl, HD⟩ := hrel
    have stopped : (k < n ∧ 127 < (bs.getD k 0).toNat) ∨ Hid (lead bs = k) ∧ ((k < n ∧ ¬ 127 < (bs.getD k 0).toNat) ∨ ¬ k < n) := by
      by_cases hlt : k < n
      · by_cases hb : 127 < (bs.getD k 0).toNat
        · exact .inl ⟨hlt, hb⟩
        · exact .inr ⟨hide (lead_stop (.inr hb) HD.out), .inl ⟨hlt, hb⟩⟩
      · exact .inr ⟨hide (lead_stop (.inl (by rw [HL.out]; omega)) HD.out), .inr hlt⟩
    rcases stopped with ⟨hlt, hb⟩ | ⟨HK, hst⟩
    · have hkl : k < bs.length := by rw [HL.out]; exact hlt
      obtain ⟨ad, rfl, _, hcell⟩ := HR.out.byte hkl
      have HD' := hide (lead_step hkl hb HD.out)
      clear hkl
      generalize bs.getD k 0 = b at hb hcell
      go_wp2
      go_round
      case rel => exact ⟨k + 1, by omega, by go_num, HD'⟩
      case measure => simp [intOf]; omega
    · clear HD
      by_cases hbad : n ≤ k ∨ 9 < k
      · have HZ := hide (ref_none1 (bs := bs) (by rw [HK.out, HL.out]; omega))
        have hb2 : decide ((n : Int) ≤ k) = true ∨ decide ((n : Int) ≤ k) = false ∧ 9 < k := by
          by_cases h : n ≤ k
          · exact .inl (by simp; omega)
          · exact .inr ⟨by simp; omega, by omega⟩
        rcases hst with ⟨hlt, hb⟩ | hge
        · have hkl : k < bs.length := by rw [HL.out]; exact hlt
          obtain ⟨ad, rfl, _, hcell⟩ := HR.out.byte hkl
          clear hkl
          generalize bs.getD k 0 = b at hb hcell
          have h9 : 9 < k := by omega
          go_wp2
          go_ret2
          exact ⟨by rw [HZ.out]; rfl, Fr.refl _ _⟩
        · go_wp2
          go_ret2
          exact ⟨by rw [HZ.out]; rfl, Fr.refl _ _⟩
      · have hkn : k < n := by omega
        have hk9 : k ≤ 9 := by omega
        have hkl : k < bs.length := by rw [HL.out]; exact hkn
        have hb : ¬ 127 < (bs.getD k 0).toNat := by rcases hst with h | h; exact h.2; omega
        obtain ⟨ad, rfl, _, hcell⟩ := HR.out.byte hkl
        have HKL := hide hkl
        clear hkl hbad hst
        generalize bs.getD k 0 = b at hb hcell
        go_wp2
        clear hcell hb
        go_loop [5, 6] (fun y i => ∃ j : Int, -1 ≤ j ∧ j ≤ k ∧ i = .int .i64 j ∧ y = .int .u64 (gv bs (k + 1) (j + 1).toNat : Nat)) (fun _ i => (intOf i + 1).toNat)
        case atStart => exact ⟨k, by omega, by omega, rfl, by
          have e : ((k : Int) + 1).toNat = k + 1 := by omega
          rw [e, gv_end]; rfl⟩
        case round =>
          obtain ⟨i, hi1, hi2, rfl, rfl⟩ := hrel
          by_cases hge : 0 ≤ i
          · obtain ⟨j, rfl⟩ := Int.eq_ofNat_of_zero_le hge
            have hjl : j < bs.length := by rw [HL.out]; omega
            obtain ⟨ad', had, _, hcell⟩ := HR.out.byte hjl
            obtain rfl : ad = ad' := Option.some.inj had
            have hs := gv_step (bs := bs) (k := k + 1) (j := j) (by omega) (by rw [HL.out]; omega)
            have e1 : ((j : Int) + 1).toNat = j + 1 := by omega
            rw [e1]
            generalize bs.getD j 0 = b at hcell hs
            have hlt := gv_lt bs (k + 1) (j + 1)
            generalize gv bs (k + 1) (j + 1) = y at hs hlt
            obtain ⟨z, HZ⟩ : ∃ z, Hid (gv bs (k + 1) j = z) := ⟨_, hide rfl⟩
            rw [HZ.out] at hs
            clear hjl had e1
            go_wp2
            go_round
            case rel => exact ⟨(j : Int) - 1, by omega, by omega, rfl, by
              have e2 : ((j : Int) - 1 + 1).toNat = j := by omega
              rw [e2, HZ.out]
              rw [← hs, Int.natCast_emod]; rfl⟩
            case measure => simp [intOf]
          · obtain rfl : i = -1 := by omega
            have e1 : ((-1 : Int) + 1).toNat = 0 := by omega
            rw [e1]
            have hlt := gv_lt bs (k + 1) 0
            have HG : Hid (gv bs (k + 1) 0 = gval (bs.take (lead bs + 1)) % 18446744073709551616) := by rw [HK.out]; rfl
            generalize gv bs (k + 1) 0 = u at HG hlt
            have HU := hide (fun W => refUint_any u W hlt)
            have HNo : Hid (enc u ≠ bs.take (k + 1) → dec 0 0 bs = none) := by
              intro h
              apply ref_none2
              rw [← HG.out, HK.out]
              exact h
            have HYes : Hid (enc u = bs.take (k + 1) → dec 0 0 bs = some (u, k + 1)) := fun h => ref_some hlt (by rw [HL.out]; omega) h
            have hel := enc_len u
            obtain ⟨L, HEL⟩ : ∃ L, Hid ((enc u).length = L) := ⟨_, hide rfl⟩
            rw [HEL.out] at hel
            unfold GivesB at HU
            generalize enc u = E at HU HNo HYes HEL
            rw [HEL.out] at HU
            clear e1 HG hi1 hi2 hge
            obtain ⟨he1, he2⟩ := hel
            have HTL : Hid ((bs.take (k + 1)).length = k + 1) := by
              have := HL.out
              show (bs.take (k + 1)).length = k + 1
              rw [List.length_take]; omega
            by_cases hLk : L = k + 1
            · subst hLk
              have hne : (((k + 1 : Nat) : Int) != (k : Int) + 1) = false := by simp
              go_wp2_with (go_at_call 92; refine (HU.out _).mono ?_; rintro en w1 ⟨v1, rfl, hown, hfr⟩; obtain ⟨A1, c1, rfl, hq1, hq2, _, hq3, _⟩ := hown.form; have HQ := hide hq3; have HF := hide hfr; clear hown hfr hq3)
              unfold maxLen at hq2
              go_loopw [8] (fun i wr => ∃ j nq : Nat, j ≤ k + 1 ∧ i = .int .i64 j ∧ wr = w1.drewN nq ∧ Hid (E.take j = bs.take j)) (fun i _ => k + 1 - (intOf i).toNat)
              case atStart => exact ⟨0, 0, by omega, rfl, rfl, hide rfl⟩
              case round =>
                obtain ⟨j, nq, hj, rfl, rfl, HT⟩ := hrel
                by_cases hlt : j < k + 1
                · have h1 : j < E.length := by rw [HEL.out]; exact hlt
                  have h2 : j < bs.length := by rw [HL.out]; omega
                  obtain ⟨a1, rfl, _, hcell⟩ := HQ.out.byte h1
                  obtain ⟨bd, hbd, _, hcell2⟩ := (HR.out.fr0 HF.out).byte h2
                  obtain rfl : ad = bd := Option.some.inj hbd
                  have HE := hide (fun he => take_succ_eq h1 h2 HT.out he)
                  have HN := hide (show E.getD j 0 ≠ bs.getD j 0 → E ≠ bs.take (k + 1) from fun h e => h (by
                    rw [e]
                    have h3 : j < (bs.take (k + 1)).length := by rw [HTL.out]; exact hlt
                    simp only [List.getD_eq_getElem?_getD, List.getElem?_eq_getElem h3, List.getElem?_eq_getElem h2]
                    simp))
                  clear h1 h2 hbd
                  generalize E.getD j 0 = x at hcell HE HN
                  generalize bs.getD j 0 = y at hcell2 HE HN
                  by_cases he : x = y
                  · subst he
                    have HE' := hide (HE.out rfl)
                    clear HE
                    have hb2 : ((x.toNat : Int) != x.toNat) = false := by simp
                    go_wp2
                    go_quiet (fail)
                    go_wp2
                    go_round
                    case rel => exact ⟨j + 1, _, by omega, by go_num, rfl, HE'⟩
                    case measure => simp [intOf]; omega
                  · have hb2 : ((x.toNat : Int) != y.toNat) = true := by
                      simp
                      intro h
                      exact he (UInt8.toNat_inj.1 (by omega))
                    go_wp2
                    go_quiet (fail)
                    go_wp2
                    go_ret2
                    exact ⟨by rw [HNo.out (HN.out he)]; rfl, (HF.out.drewN _).drewN _⟩
                · have HF2 := hide (show E = bs.take (k + 1) by
                    have h := HT.out
                    have ej : j = k + 1 := by omega
                    rw [ej] at h
                    rwa [List.take_of_length_le (by rw [HEL.out]; omega)] at h)
                  go_wp2
                  go_ret2
                  exact ⟨by rw [HYes.out HF2.out]; simp [numW], HF.out.drewN _⟩
            · have hne : ((L : Int) != (k : Int) + 1) = true := by simp; omega
              have HZ := hide (HNo.out (fun e => hLk (by rw [← HEL.out, e, HTL.out])))
              go_wp2_with (go_at_call 92; refine (HU.out _).mono ?_; rintro en w1 ⟨v1, rfl, hown, hfr⟩; obtain ⟨A1, c1, rfl, hq1, hq2, _, hq3, _⟩ := hown.form; have HF := hide hfr; clear hown hfr hq3)
              go_ret2
              exact ⟨by rw [HZ.out]; rfl, HF.out⟩

end Go.Proofs.YtnjcncidlhllmaaGreat
namespace Go.Proofs.YtnjcncidlhllmaaGreat
set_option linter.unusedVariables false
set_option linter.unusedSimpArgs false
open Go.RowKit

/-- the document's reader: bytes that came in, the place in them, the error. -/
def RS (w : World) (B g : Nat) (bs : List UInt8) (a : Nat) (e : Int) : Prop :=
  ∃ A c, w.heap[g]? = some (.cells #[.slice A bs.length c, .int .i64 a, .int .i64 e] 95 (0, 0)) ∧ bs.length ≤ c ∧ c ≤ maxLen ∧ a ≤ bs.length ∧ bs.length ≤ 140737488355328 ∧ Rd w B A (by8 bs) ∧ B ≤ g

section
variable {w w' : World} {B g : Nat} {bs : List UInt8} {a : Nat} {e : Int}
theorem RS.parts (h : RS w B g bs a e) :
    ∃ A c, (w.cell? ⟨g, 0, none⟩ = some (.slice A bs.length c) ∧ w.cell? ⟨g, 1, none⟩ = some (.int .i64 a) ∧ w.cell? ⟨g, 2, none⟩ = some (.int .i64 e)) ∧ (∀ i, w.frozen? ⟨g, i, none⟩ = false) ∧
      bs.length ≤ c ∧ c ≤ maxLen ∧ a ≤ bs.length ∧ bs.length ≤ 140737488355328 ∧ Rd w B A (by8 bs) ∧ B ≤ w.heap.size := by
  obtain ⟨A, c, hh, h1, h2, h3, h4, ho, hB⟩ := h
  exact ⟨A, c, ⟨cell_of_row w g 0 _ _ (0, 0) hh, cell_of_row w g 1 _ _ (0, 0) hh, cell_of_row w g 2 _ _ (0, 0) hh⟩, fun i => by simp [World.frozen?, hh], h1, h2, h3, h4, ho, by
    have := (Array.getElem?_eq_some_iff.1 hh).1
    omega⟩
theorem RS.fr {S : Nat → Prop} (h : RS w B g bs a e) (f : Fr S w w') (hg : ¬ S g) (hB : ∀ k, k < B → ¬ S k) : RS w' B g bs a e := by
  obtain ⟨A, c, hh, h1, h2, h3, h4, ho, h5⟩ := h
  exact ⟨A, c, f.blk hh hg, h1, h2, h3, h4, ho.fr f hB, h5⟩
theorem RS.fr0 (h : RS w B g bs a e) (f : Fr No w w') : RS w' B g bs a e := h.fr f (fun h => h) (fun _ _ h => h)
theorem RS.set1 (h : RS w B g bs a e) (k : Nat) (hk : k ≤ bs.length) : RS (w.setCell ⟨g, 1, none⟩ (.int .i64 k)) B g bs k e := by
  obtain ⟨A, c, hh, h1, h2, h3, h4, ho, h5⟩ := h
  refine ⟨A, c, by simp [World.setCell, Array.getElem?_modify, hh], h1, h2, hk, h4, ho.fr ((Fr.refl (Is g) w).setCell (p := ⟨g, 1, none⟩) (fun _ => rfl) _) ?_, h5⟩
  intro k hk e
  have : k = g := e
  omega
theorem RS.set2 (h : RS w B g bs a e) (k : Int) : RS (w.setCell ⟨g, 2, none⟩ (.int .i64 k)) B g bs a k := by
  obtain ⟨A, c, hh, h1, h2, h3, h4, ho, h5⟩ := h
  refine ⟨A, c, by simp [World.setCell, Array.getElem?_modify, hh], h1, h2, h3, h4, ho.fr ((Fr.refl (Is g) w).setCell (p := ⟨g, 2, none⟩) (fun _ => rfl) _) ?_, h5⟩
  intro k hk e
  have : k = g := e
  omega
theorem RS.drewN (h : RS w B g bs a e) (n : Nat) : RS (w.drewN n) B g bs a e := h
theorem RS.lt (h : RS w B g bs a e) : g < w.heap.size := by
  obtain ⟨A, c, hh, _⟩ := h
  exact (Array.getElem?_eq_some_iff.1 hh).1
end

def RSRet (v : Value) (w : World) (B g : Nat) (bs : List UInt8) (a : Nat) (e : Int) (en : Ending) (w' : World) : Prop := en = .returned v ∧ RS w' B g bs a e ∧ Fr (Is g) w w'

end Go.Proofs.YtnjcncidlhllmaaGreat
namespace Go.Proofs.YtnjcncidlhllmaaGreat
set_option linter.unusedVariables false
set_option linter.unusedSimpArgs false
open Go.RowKit

theorem refnum_cut {w : World} {B : Nat} {A : Option Addr} {bs : List UInt8} {c a : Nat} {x : Option (Nat × Nat)} (hr : Rd w B A (by8 bs)) (h1 : bs.length ≤ c) (h2 : c ≤ maxLen) (h3 : a ≤ bs.length) (hB : B ≤ w.heap.size) (hd : dec 0 0 (bs.drop a) = x) :
    ∀ w' : World, w'.heap = w.heap → Calls Tryz.prog 90 #[.slice (if c = a then A else A.map (·.add a)) (bs.length - a) (c - a)] w' (RetF (numW x) w') := by
  intro w' hw
  have hcell : ∀ p, w'.cell? p = w.cell? p := fun p => by simp [World.cell?, hw]
  subst hd
  refine refNumber_any _ _ _ B (bs.drop a) w' (by simp) (by omega) (by omega) (by rw [hw]; exact hB) ?_
  rw [by8_drop]
  refine Rd.cut ?_ (by rw [by8_length]; exact h1)
  intro j u hu
  obtain ⟨ad, e, hb, hcc⟩ := hr j u hu
  exact ⟨ad, e, hb, by rw [hcell]; exact hcc⟩

end Go.Proofs.YtnjcncidlhllmaaGreat
