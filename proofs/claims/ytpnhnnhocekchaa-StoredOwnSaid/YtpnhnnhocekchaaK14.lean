/- Several texts in one: StoOp. -/
import Derived.Test.YtpnhnnhocekchaaK13
import Derived.Deep.RegionHeld3
import Derived.Deep.RegionLaw
import Derived.Deep.DeepCutAuto
namespace Go.Proofs.Ytpnhnnhocekchaa
set_option linter.unusedVariables false
set_option linter.unusedSimpArgs false
open Go.RowKit
attribute [local go_sem] Oper.semAt_some

theorem docsF_any (f t m c : Nat) (A : Option Addr) (w : World) : Calls Try.prog 78 #[.agg #[.int .i64 f, .int .i64 t, .slice A m c]] w fun e w' =>
    e = .returned (.func (.func 104) #[] #[.pointer (some ⟨w.heap.size, 0, none⟩)]) ∧ w' = w.alloc (.cells #[.int .i64 f, .int .i64 t, .slice A m c] 106) := by
  go_enter Try.func78, Try.ntmps78
  go_wp2
  go_ret
  exact ⟨by simp, by simp⟩

set_option maxRecDepth 100000 in
set_option maxHeartbeats 16000000 in
theorem open_in (fr : Nat) (hfr : 6 ≤ fr) (m c : Nat) (A : Option Addr) (bs : List UInt8) (B : Nat) (w : World) (hl : bs.length = m) (hm : m ≤ c) (hc : c ≤ maxLen) (hb : m ≤ 140737488355328) (hB : B ≤ w.heap.size) (hr : Rd w B A (by8 bs)) :
    CallsIn Fence.wide fr Try.prog 43 #[.slice A m c] w (OpenPost w bs) := by
  obtain ⟨i0, hi0, hz0, hsz0, hby0⟩ := info_parts Try.infoChunk
  have hmf : ∀ (fn : Fn) (first cap : Array Value) (w : World), (Instr.makeFunc fn first cap).run Try.prog w = .ok (.func fn first cap) w := fun _ _ _ _ => rfl
  have HNew := hide (newReader_any A m c B bs ((w.alloc (.cells #[.pointer none] 62)).alloc (.cells #[.int .i64 0] 28)) hl hm hc hb (by simp; omega) (hr.fr0 (((Fr.refl No w).alloc _).alloc _)))
  have HL := hide hl
  have HR := hide hr
  have HB := hide hB
  have HC := hide hc
  have HM := hide hm
  clear hl hr hB hc hm
  refine callsIn_of_wp_marks Try.func43 rfl trivial ?_ rfl
  simp only [Try.ntmps43, List.size_toArray, List.length_cons, List.length_nil, Nat.reduceAdd, Nat.reduceSub, Array.replicate_succ, Array.replicate_zero, List.push_toArray, List.append_toArray, List.nil_append, List.cons_append]
  refine wpIn_wide.2 ?_
  obtain ⟨N, a1, e1, hs1⟩ : ∃ N a e, sizeS bs 0 0 16384 = (N, a, e) := ⟨_, _, _, rfl⟩
  obtain ⟨C, a2, e2, hs2⟩ : ∃ C a e, sizeS bs a1 e1 (N : Nat) = (C, a, e) := ⟨_, _, _, rfl⟩
  have HS1 := hide hs1
  have HS2 := hide hs2
  have hN : N ≤ 16384 := by have := sizeS_le (bs := bs) (a := 0) (e := 0) (most := 16384) (by omega); rw [hs1] at this; omega
  have hC : C ≤ N := by have := sizeS_le (bs := bs) (a := a1) (e := e1) (most := (N : Nat)) (by omega); rw [hs2] at this; omega
  have HZ1 := hide (fun W h => sizeN_any w.heap.size bs 0 0 16384 W h (by omega) (by omega))
  clear hs1 hs2 HZ1
  go_wp2_with (fail)
  refine HNew.out.mono ?_
  rintro en w1 ⟨g, rfl, hg, hrd, hfr1⟩
  obtain ⟨b1, hb1⟩ : ∃ b1, b1 = w.heap.size := ⟨_, rfl⟩
  have HSz1 := hide (sizeN_any g bs 0 0 16384 w1 hrd (by omega) (by omega))
  rw [HS1.out] at HSz1
  have HX1 : Hid (Fr No w w1) := hide ((((Fr.refl No w).alloc _).alloc _).tr hfr1)
  have HK1 : Hid (w1.heap[w.heap.size]? = some (.cells #[.pointer none] 62 (0, 0))) := hide (hfr1.blk (((Fr.refl No (w.alloc (.cells #[.pointer none] 62))).alloc _).blk (heap_alloc_new w _) (fun h => h)) (fun h => h))
  have HK2 : Hid (w1.heap[w.heap.size + 1]? = some (.cells #[.int .i64 0] 28 (0, 0))) := hide (hfr1.blk (by have := heap_alloc_new (w.alloc (.cells #[.pointer none] 62)) (.cells #[.int .i64 0] 28); simpa using this) (fun h => h))
  have HG : Hid (w.heap.size + 2 ≤ g) := hide (by simp at hg; omega)
  clear hrd hfr1 hg
  go_wp2_with (fail)
  refine HSz1.out.mono ?_
  rintro en w2 ⟨rfl, hrd, hfr2⟩
  have HR2 := hide hrd
  have hg1 : ¬ Is g w.heap.size := fun e => by have e : w.heap.size = g := e; have := HG.out; omega
  have hg2 : ¬ Is g (w.heap.size + 1) := fun e => by have e : w.heap.size + 1 = g := e; have := HG.out; omega
  have k1 := hfr2.blk HK1.out hg1
  have k2 := hfr2.blk HK2.out hg2
  have HX2 : Hid (Fr No w w2) := hide (HX1.out.trans hfr2 (fun i hi e => by have e : i = g := e; have := HG.out; omega))
  have q1 : (w2.alloc (.cells #[.slice none 0 0, .int .i64 (N : Nat)] 115)).cell? ⟨w.heap.size, 0, none⟩ = some (.pointer none) := ((Fr.refl No w2).alloc _).cell (cell_of_row _ _ 0 _ _ _ k1) (fun h => h)
  have q2 : (w2.alloc (.cells #[.slice none 0 0, .int .i64 (N : Nat)] 115)).frozen? ⟨w.heap.size, 0, none⟩ = false := frozen_of_row _ _ _ _ _ (((Fr.refl No w2).alloc _).blk k1 (fun h => h))
  have HK3 := hide k1
  have HK4 := hide k2
  clear hrd hfr2 hg1 hg2 k1 k2 HK1 HK2
  go_wp2_with (fail)
  obtain ⟨w3, hw3⟩ : ∃ w3, w3 = (w2.alloc (.cells #[.slice none 0 0, .int .i64 (N : Nat)] 115)).setCell ⟨w.heap.size, 0, none⟩ (.pointer (some ⟨w2.heap.size, 0, none⟩)) := ⟨_, rfl⟩
  have HO3 : Hid (OpS w w3 g w2.heap.size bs a1 e1 N (.slice none 0 0) 0 []) := hide (by
    have f0 : Fr No w2 (w2.alloc (.cells #[.slice none 0 0, .int .i64 (N : Nat)] 115)) := (Fr.refl No w2).alloc _
    have f1 : Fr (Is w.heap.size) (w2.alloc (.cells #[.slice none 0 0, .int .i64 (N : Nat)] 115)) w3 := by rw [hw3]; exact (Fr.refl (Is w.heap.size) _).put 0 _
    have x1 := f0.blk HK3.out (fun h => h)
    have x2 := f0.blk HK4.out (fun h => h)
    have x3 := heap_alloc_new w2 (.cells #[.slice none 0 0, .int .i64 (N : Nat)] 115)
    have hgs : w.heap.size + 2 ≤ w2.heap.size := by have := (Array.getElem?_eq_some_iff.1 HK4.out).1; omega
    have o : ∀ t, t ≠ 62 → Off (Is w.heap.size) (w2.alloc (.cells #[.slice none 0 0, .int .i64 (N : Nat)] 115)) t := fun t ht => off_is x1 ht
    refine ⟨((HX2.out.tr f0).trans f1 (fun i hi e => by have e : i = w.heap.size := e; omega)), ?_, f1.blk x2 (o _ (by decide) _ _ _ x2), f1.blk x3 (o _ (by decide) _ _ _ x3), (HR2.out.fr0 f0).offT f1 (o _ (by decide)) (o _ (by decide)), ⟨[], OwnC.nil _ _, rfl⟩, hgs, HG.out⟩
    rw [hw3]
    exact box_put x1)
  rw [← hw3]
  obtain ⟨gS, hgS⟩ : ∃ gS, gS = w2.heap.size := ⟨_, rfl⟩
  rw [← hgS] at HO3 ⊢
  have HSz2 := hide (sizeN_any g bs a1 e1 (N : Nat) w3 HO3.out.rd (by omega) (by omega))
  rw [HS2.out] at HSz2
  clear hw3 q1 q2 HX1 HX2 HR2 HK3 HK4 hgS
  refine HSz2.out.mono ?_
  rintro en w4 ⟨rfl, hrd, hfr4⟩
  have HO4 : Hid (OpS w w4 g gS bs a2 e2 N (.slice none 0 0) 0 []) := hide (HO3.out.read hfr4 hrd)
  clear hrd hfr4 HSz2 HO3
  by_cases he2 : e2 = 0
  · subst he2
    have HGo := hide (good_ok g bs a2 w4 HO4.out.rd)
    have hmk := make_intO C (by omega)
    have HZo := hide (fun W => made_own W C 3 (.int .i64 0) _ rfl (by unfold maxLen; omega))
    generalize madeCells #[Value.int .i64 0] C = zz at hmk HZo
    go_wp2_with (fail)
    refine HGo.out.mono ?_
    rintro en w5 ⟨⟨r5, rfl⟩, rfl⟩
    go_wp2_with (fail)
    go_region
    have HFz : Fr No w5 (w5.alloc (.cells zz 3)).drew := ((Fr.refl No w5).alloc _).drew
    have HO5 := hide (HO4.out.fr0 HFz)
    have HZ5 := hide ((HZo.out w5).fr0 ((Fr.refl No _).drew))
    obtain ⟨gZ, hgZ⟩ : ∃ gZ, gZ = w5.heap.size := ⟨_, rfl⟩
    rw [← hgZ] at HZ5
    have HZb : Hid (w.heap.size ≤ gZ) := hide (by rw [hgZ]; exact HO4.out.fr.size)
    generalize (w5.alloc (.cells zz 3)).drew = w6 at HFz HO5 HZ5 ⊢
    rw [← hgZ]
    clear HFz HO4 HGo HZo hmk hgZ
    go_wp2_with (fail)
    go_loopw [6, 35] (fun at_ ix wr => ∃ (q t b : Nat) (ks : List (Nat × Nat)) (v : Value), q ≤ C ∧ ix = .int .i64 (q : Nat) ∧ at_ = .int .i64 (t : Nat) ∧ t ≤ N ∧ Hid (hdrS bs m N q a2 = some (ks, b, t)) ∧ Hid (OpS w wr g gS bs b 0 N v q (noB ks)) ∧ Hid (Own wr gZ 3 1 (.slice (some ⟨gZ, 0, none⟩) C C) C (ints (ks.map (·.2)) ++ List.replicate (C - q) (.int .i64 0)))) (fun _ ix _ => C - (intOf ix).toNat)
    case atStart => exact ⟨0, 0, a2, [], .slice none 0 0, by omega, rfl, rfl, by omega, hide rfl, HO5, hide (by simpa [ints] using HZ5.out)⟩
    case round =>
      obtain ⟨wo, rfl⟩ : ∃ wo : World, wo = wr := ⟨_, rfl⟩
      clear HO5 HZ5
      obtain ⟨q, t, b, ks, v, hq, rfl, rfl, htN, HD, HO, HZ⟩ := hrel
      by_cases hlt : q < C
      · obtain ⟨k1, x1, ε1, hk1⟩ : ∃ k x ε, sizeS bs b 0 16384 = (k, x, ε) := ⟨_, _, _, rfl⟩
        obtain ⟨k2, x2, ε2, hk2⟩ : ∃ k x ε, sizeS bs x1 ε1 (m : Nat) = (k, x, ε) := ⟨_, _, _, rfl⟩
        have HSt := hide (hdr_step HD.out hk1 hk2)
        have HSa := hide (sizeN_any g bs b 0 16384 wo HO.out.rd (by omega) (by omega))
        have HSb := hide (fun W h => sizeN_any g bs x1 ε1 (m : Nat) W h (by omega) (by omega))
        have hkb : k1 ≤ 16384 := by have := sizeS_le (bs := bs) (a := b) (e := 0) (most := 16384) (by omega); rw [hk1] at this; omega
        rw [hk1] at HSa
        rw [hk2] at HSb
        obtain ⟨hks, _, _, _, hsum⟩ := hdr_of _ _ _ _ HD.out
        have HSum := hide hsum.symm
        have HKl := hide hks
        obtain ⟨u, hu⟩ : ∃ u, u = t + k1 := ⟨_, rfl⟩
        have HU := hide hu
        have huI : (t : Int) + (k1 : Int) = (u : Int) := by omega
        clear hk1 hk2 hks hsum hu
        go_wp2_with (fail)
        refine HSa.out.mono ?_
        rintro en w7 ⟨rfl, hrd, hfr7⟩
        have HO7 := hide (HO.out.read hfr7 hrd)
        have HZ7 := hide (HZ.out.off hfr7 (by obtain ⟨A', c', hh, _⟩ := HO.out.rd; exact off_is hh (by decide)))
        have HVE0 : Hid (∀ k, v.ownBlock = some k → k < w7.heap.size) := hide (fun k hk => by obtain ⟨ps7, hps7, _⟩ := HO7.out.ch; exact (hps7.row.lt k hk).2)
        clear hrd hfr7 HSa
        obtain ⟨w8, hw8⟩ : ∃ w8, w8 = w7.alloc (.cells #[.int .i64 (t : Nat), .int .i64 (u : Nat), .slice none 0 0] 106) := ⟨_, rfl⟩
        have HF8 : Hid (Fr No w7 w8) := hide (by rw [hw8]; exact (Fr.refl No w7).alloc _)
        have HRow := hide (heap_alloc_new w7 (.cells #[.int .i64 (t : Nat), .int .i64 (u : Nat), .slice none 0 0] 106))
        rw [← hw8] at HRow
        obtain ⟨E, hE⟩ : ∃ E, E = w7.heap.size := ⟨_, rfl⟩
        rw [← hE] at HRow
        have HVE : Hid (∀ k, v.ownBlock = some k → k < E) := hide (by rw [hE]; exact HVE0.out)
        clear HVE0
        have HO8 := hide (HO7.out.fr0 HF8.out)
        have HZ8 := hide (HZ7.out.fr0 HF8.out)
        have HS8 := hide (HSb.out w8 HO8.out.rd)
        have HEg : Hid (E ≠ g) := hide (by have := HO7.out.rd.lt; omega)
        have HEz : Hid (E ≠ gZ) := hide (by have h1 := HZ7.out.lt gZ rfl; omega)
        have HEs : Hid (E ≠ gS) := hide (by have h1 := (Array.getElem?_eq_some_iff.1 HO7.out.st).1; omega)
        clear HSb
        go_wp2_with (fail)
        rw [← hw8]
        rw [← hE]
        refine HS8.out.mono ?_
        rintro en w9 ⟨rfl, hrd, hfr9⟩
        have HO9 := hide (HO8.out.read hfr9 hrd)
        have HZ9 := hide (HZ8.out.off hfr9 (by obtain ⟨A', c', hh, _⟩ := HO8.out.rd; exact off_is hh (by decide)))
        have HRow9 := hide (hfr9.blk HRow.out (fun e => HEg.out e))
        obtain ⟨hco, hfz, hput⟩ := HZ9.out.put (k := q) hlt
        obtain ⟨u0, hu0⟩ := HZ9.out.some_at hlt
        rw [hu0] at hco
        have HPut := hide hput
        have HZc := hide (HZ9.out.cellsT rfl).2
        clear hrd hfr9 HS8 hw8 hE hput hu0
        go_wp2_with (fail)
        obtain ⟨w10, hw10⟩ : ∃ w10, w10 = w9.setCell ⟨gZ, q, none⟩ (.int .i64 (k2 : Nat)) := ⟨_, rfl⟩
        have HF10 : Hid (Fr (Is gZ) w9 w10) := hide (by rw [hw10]; exact (Fr.refl (Is gZ) w9).put _ _)
        have HOz : Hid (∀ T, T ≠ 3 → Off (Is gZ) w9 T) := hide (fun T hT => by obtain ⟨cs, fz, hh⟩ := HZc.out; exact off_is hh hT)
        have HO10 := hide (HO9.out.off HF10.out ⟨HOz.out _ (by decide), HOz.out _ (by decide), HOz.out _ (by decide), HOz.out _ (by decide), HOz.out _ (by decide), HOz.out _ (by decide)⟩ (fun i hi e => by have e : i = gZ := e; have := HZb.out; omega))
        have HZ10 : Hid (Own w10 gZ 3 1 (.slice (some ⟨gZ, 0, none⟩) C C) C (ints ((ks ++ [(k1, k2)]).map (·.2)) ++ List.replicate (C - (q + 1)) (.int .i64 0))) := hide (by
          have h := HPut.out (.int .i64 (k2 : Nat))
          rw [ints_setO hlt (by rw [List.length_map]; exact HKl.out)] at h
          rw [hw10, List.map_append]
          exact h)
        have HRow10 := hide (HF10.out.blk HRow9.out (fun e => HEz.out e))
        rw [← hw10]
        have HT12 : Hid (w10.drew.cell? ⟨E, 0, none⟩ = some (.int .i64 (t : Nat)) ∧ w10.drew.cell? ⟨E, 1, none⟩ = some (.int .i64 (u : Nat)) ∧ w10.drew.cell? ⟨w.heap.size, 0, none⟩ = some (.pointer (some ⟨gS, 0, none⟩)) ∧ w10.drew.cell? ⟨gS, 1, none⟩ = some (.int .i64 (N : Nat))) := hide ⟨cell_of_row w10 _ 0 _ _ _ HRow10.out, cell_of_row w10 _ 1 _ _ _ HRow10.out, cell_of_row w10 _ 0 _ _ _ HO10.out.b1, cell_of_row w10 _ 1 _ _ _ HO10.out.st⟩
        clear hco hfz hw10 HO7 HZ7 HRow HO8 HZ8 HO9 HZ9 HRow9 HPut
        by_cases hgood : ε2 = 0 ∧ 0 < k1 ∧ t + k1 ≤ N
        · obtain ⟨rfl, g1, g2⟩ := hgood
          have HGo := hide (fun nq => good_ok g bs x2 (w10.drewN nq) (HO10.out.rd.drewN nq))
          have hd1 : decide ((t : Int) < (u : Int)) = true := decide_eq_true (by omega)
          have hd2 : decide (t < u) = true := decide_eq_true (by have := HU.out; omega)
          have hd3 : decide ((u : Int) ≤ (N : Int)) = true := decide_eq_true (by omega)
          have hd4 : decide (u ≤ N) = true := decide_eq_true (by have := HU.out; omega)
          obtain ⟨ht1, ht2, ht3, ht4⟩ := HT12.out
          go_region_held3 (fun W => W.cell? ⟨E, 0, none⟩ = some (.int .i64 (t : Nat)) ∧ W.cell? ⟨E, 1, none⟩ = some (.int .i64 (u : Nat)) ∧ W.cell? ⟨w.heap.size, 0, none⟩ = some (.pointer (some ⟨gS, 0, none⟩)) ∧ W.cell? ⟨gS, 1, none⟩ = some (.int .i64 (N : Nat))) (first | exact HT12.out) (first
            | (go_at_call 77; refine (HGo.out 1).mono ?_; rintro en w11 ⟨⟨r11, rfl⟩, rfl⟩))
          obtain ⟨w12, hw12⟩ : ∃ w12, w12 = w10.drewN 1 := ⟨_, rfl⟩
          have HO12 : Hid (OpS w w12 g gS bs x2 0 N v q (noB ks)) := hide (by rw [hw12]; exact HO10.out.fr0 ((Fr.refl No _).drewN 1))
          have HZ12 := hide (HZ10.out.fr0 ((Fr.refl No _).drewN 1))
          have HRow12 := hide (((Fr.refl No w10).drewN 1).blk HRow10.out (fun h => h))
          rw [← hw12] at HZ12 HRow12 ⊢
          obtain ⟨ps, hps, htr⟩ := HO12.out.ch
          have HPs := hide hps
          have HTr := hide htr
          obtain ⟨Av, cv, rfl, _⟩ := hps.row.form
          clear ht1 ht2 ht3 ht4 hd1 hd2 hd3 hd4 HGo HT12 HO10 HZ10 HRow10 hw12 hps htr
          go_wp2_with (fail)
          have HFa : Hid (Fr No w12 (w12.alloc (.cells #[.int .i64 (t : Nat), .int .i64 (u : Nat), .slice none 0 0] 106)).drew) := hide (((Fr.refl No w12).alloc _).drew)
          have HC13 := hide (HPs.out.fr0 HFa.out)
          have HS13 := hide (Src.ofRd (P := Try.prog) (size := 3) (w12.alloc (.cells #[.int .i64 (t : Nat), .int .i64 (u : Nat), .slice none 0 0] 106)).drew Try.underlying101 (some ⟨w12.heap.size, 0, none⟩) 1 1 [.int .i64 (t : Nat), .int .i64 (u : Nat), .slice none 0 0] rfl (by omega) ((Rd.block (heap_alloc_new w12 (.cells #[.int .i64 (t : Nat), .int .i64 (u : Nat), .slice none 0 0] 106))).fr0 ((Fr.refl No _).drew)) (by simp [Value.oneCell']))
          have y1 : w12.drew.cell? ⟨w.heap.size, 0, none⟩ = some (.pointer (some ⟨gS, 0, none⟩)) := cell_of_row w12 _ 0 _ _ _ HO12.out.b1
          have y2 : w12.drew.cell? ⟨gS, 0, none⟩ = some (.slice Av q cv) := cell_of_row w12 _ 0 _ _ _ HO12.out.st
          have y3 : w12.drew.cell? ⟨E, 0, none⟩ = some (.int .i64 (t : Nat)) := cell_of_row w12 _ 0 _ _ _ HRow12.out
          have y4 : w12.drew.cell? ⟨E, 1, none⟩ = some (.int .i64 (u : Nat)) := cell_of_row w12 _ 1 _ _ _ HRow12.out
          have y5 : w12.drew.cell? ⟨E, 2, none⟩ = some (.slice none 0 0) := cell_of_row w12 _ 2 _ _ _ HRow12.out
          have z1 := HFa.out.cell (p := ⟨w.heap.size, 0, none⟩) y1 (fun h => h)
          have z2 := HFa.out.cell (p := ⟨gS, 0, none⟩) y2 (fun h => h)
          have c1 : (q + 1) * 40 ≤ 140737488355328 := by omega
          have c2 : q + 1 ≤ maxLen := by unfold maxLen; omega
          have c3 : w.heap.size ≤ (w12.alloc (.cells #[.int .i64 (t : Nat), .int .i64 (u : Nat), .slice none 0 0] 106)).drew.heap.size := Nat.le_trans HO12.out.fr.size HFa.out.size
          refine wp_calm fun K hK => ?_
          go_cut [] from 67 to 76 (fun wx => ∃ v', Hid (OpS w wx g gS bs x2 0 N v' (q + 1) (noB (ks ++ [(k1, k2)]))) ∧ Hid (Own wx gZ 3 1 (.slice (some ⟨gZ, 0, none⟩) C C) C (ints ((ks ++ [(k1, k2)]).map (·.2)) ++ List.replicate (C - (q + 1)) (.int .i64 0))) ∧ wx.cell? ⟨E, 1, none⟩ = some (.int .i64 (u : Nat)))
          case first =>
            have TS1 : Hid (w12.drew.cell? ⟨w.heap.size, 0, none⟩ = some (.pointer (some ⟨gS, 0, none⟩)) ∧ w12.drew.cell? ⟨E, 0, none⟩ = some (.int .i64 (t : Nat)) ∧ w12.drew.cell? ⟨E, 1, none⟩ = some (.int .i64 (u : Nat)) ∧ w12.drew.cell? ⟨E, 2, none⟩ = some (.slice none 0 0)) := hide ⟨y1, y3, y4, y5⟩
            have TS2 : Hid ((w12.alloc (.cells #[.int .i64 (t : Nat), .int .i64 (u : Nat), .slice none 0 0] 106)).drew.cell? ⟨w.heap.size, 0, none⟩ = some (.pointer (some ⟨gS, 0, none⟩)) ∧ (w12.alloc (.cells #[.int .i64 (t : Nat), .int .i64 (u : Nat), .slice none 0 0] 106)).drew.cell? ⟨E, 0, none⟩ = some (.int .i64 (t : Nat)) ∧ (w12.alloc (.cells #[.int .i64 (t : Nat), .int .i64 (u : Nat), .slice none 0 0] 106)).drew.cell? ⟨E, 1, none⟩ = some (.int .i64 (u : Nat)) ∧ (w12.alloc (.cells #[.int .i64 (t : Nat), .int .i64 (u : Nat), .slice none 0 0] 106)).drew.cell? ⟨E, 2, none⟩ = some (.slice none 0 0)) := hide ⟨HFa.out.cell (p := ⟨w.heap.size, 0, none⟩) y1 (fun h => h), HFa.out.cell (p := ⟨E, 0, none⟩) y3 (fun h => h), HFa.out.cell (p := ⟨E, 1, none⟩) y4 (fun h => h), HFa.out.cell (p := ⟨E, 2, none⟩) y5 (fun h => h)⟩
            refine wp_region_held_drew (S := (fun W => W.cell? ⟨w.heap.size, 0, none⟩ = some (.pointer (some ⟨gS, 0, none⟩)) ∧ W.cell? ⟨E, 0, none⟩ = some (.int .i64 (t : Nat)) ∧ W.cell? ⟨E, 1, none⟩ = some (.int .i64 (u : Nat)) ∧ W.cell? ⟨E, 2, none⟩ = some (.slice none 0 0))) (by kernel_rfl) TS1.out (fun hHeld => ?_)
            refine wpAnyH_take (i := 0) (v := ?_) rfl (by kernel_rfl) (by kernel_rfl) (by kernel_rfl) (fun _ _ _ h => h) (Or.inl ⟨by kernel_rfl, ?_⟩) (by assumption) ?_
            rotate_left 1
            · (intro w' hSw; (try dsimp only at hSw); go_simp; try with_reducible rfl)
            try simp only [Act.put, List.setIfInBounds_toArray, List.set_cons_zero, List.set_cons_succ]
            refine wpAnyH_take (i := 1) (v := ?_) rfl (by kernel_rfl) (by kernel_rfl) (by kernel_rfl) (fun _ _ _ h => h) (Or.inl ⟨by kernel_rfl, ?_⟩) (by assumption) ?_
            rotate_left 1
            · (intro w' hSw; (try dsimp only at hSw); go_simp; try with_reducible rfl)
            try simp only [Act.put, List.setIfInBounds_toArray, List.set_cons_zero, List.set_cons_succ]
            refine wpAnyH_take (i := 2) (v := ?_) rfl (by kernel_rfl) (by kernel_rfl) (by kernel_rfl) (fun _ _ _ h => h) (Or.inl ⟨by kernel_rfl, ?_⟩) (by assumption) ?_
            rotate_left 1
            · (intro w' hSw; (try dsimp only at hSw); go_simp; try with_reducible rfl)
            try simp only [Act.put, List.setIfInBounds_toArray, List.set_cons_zero, List.set_cons_succ]
            refine wpAnyH_take (i := 3) (v := ?_) rfl (by kernel_rfl) (by kernel_rfl) (by kernel_rfl) (fun _ _ _ h => h) (Or.inl ⟨by kernel_rfl, ?_⟩) (by assumption) ?_
            rotate_left 1
            · (intro w' hSw; (try dsimp only at hSw); go_simp; try with_reducible rfl)
            try simp only [Act.put, List.setIfInBounds_toArray, List.set_cons_zero, List.set_cons_succ]
            refine wpAnyH_take (i := 5) (v := ?_) rfl (by kernel_rfl) (by kernel_rfl) (by kernel_rfl) (fun _ _ _ h => h) (Or.inl ⟨by kernel_rfl, ?_⟩) (by assumption) ?_
            rotate_left 1
            · (intro w' hSw; (try dsimp only at hSw); go_simp; try with_reducible rfl)
            try simp only [Act.put, List.setIfInBounds_toArray, List.set_cons_zero, List.set_cons_succ]
            refine wpAnyH_ready (rs := [4, 6]) (by kernel_rfl) (by simp) ?_
            refine AllReadyH.cons rfl (fun K1 hK1 => ?_) (AllReadyH.cons rfl (fun K1 hK1 => ?_) AllReadyH.nil)
            · go_simp
              refine hK1.out _ _ TS1.out (fun hHeld => ?_)
              clear hK1 K1
              try simp only [Act.put, List.setIfInBounds_toArray, List.set_cons_zero, List.set_cons_succ]
              refine wpAnyH_ready (rs := [6]) (by kernel_rfl) (by simp) ?_
              refine AllReadyH.cons rfl (fun K1 hK1 => ?_) AllReadyH.nil
              go_simp
              refine hK1.out _ _ TS2.out (fun hHeld => ?_)
              clear hK1 K1
              try simp only [Act.put, List.setIfInBounds_toArray, List.set_cons_zero, List.set_cons_succ]
              refine wpAnyH_ready (rs := [7]) (by kernel_rfl) (by simp) ?_
              refine AllReadyH.cons rfl (fun K1 hK1 => ?_) AllReadyH.nil
              refine step_append_any rfl (.tmp 71) (.tmp 73) 101 101 rfl w.heap.size 106 i0 _ 3 40 Try.underlying101 hi0 hz0 hsz0 hby0 rfl (.slice Av q cv) q (cFlat ps) rfl HC13.out.row _ 1 [.int .i64 (t : Nat), .int .i64 (u : Nat), .slice none 0 0] rfl HS13.out c1 c2 c3 ?_; intro v14 w14 hown hfr14; obtain ⟨A14, c14, rfl, _⟩ := hown.form; have HO14 := hide hown; have HF14 := hide hfr14; have s0 : ¬ (Value.slice Av q cv).ownBlock = some gS := (fun e => HC13.out.row.ne_blk e (HFa.out.blk HO12.out.st (fun h => h)) (by decide)); have s1 : w14.cell? ⟨gS, 0, none⟩ = some (.slice Av q cv) := hfr14.cell (p := ⟨gS, 0, none⟩) z2 s0; have s2 : w14.frozen? ⟨gS, 0, none⟩ = false := frozen_of_row _ _ _ _ _ (hfr14.blk (HFa.out.blk HO12.out.st (fun h => h)) s0); have t0 := hfr14.cell (p := ⟨w.heap.size, 0, none⟩) TS2.out.1 (fun e => HC13.out.row.ne_blk e (HFa.out.blk HO12.out.b1 (fun h => h)) (by decide)); have t1 := hfr14.cell (p := ⟨E, 0, none⟩) TS2.out.2.1 (fun e => by have := HVE.out E e; omega); have t2 := hfr14.cell (p := ⟨E, 1, none⟩) TS2.out.2.2.1 (fun e => by have := HVE.out E e; omega); have t3 := hfr14.cell (p := ⟨E, 2, none⟩) TS2.out.2.2.2 (fun e => by have := HVE.out E e; omega); have TS3 : Hid (w14.cell? ⟨w.heap.size, 0, none⟩ = some (.pointer (some ⟨gS, 0, none⟩)) ∧ w14.cell? ⟨E, 0, none⟩ = some (.int .i64 (t : Nat)) ∧ w14.cell? ⟨E, 1, none⟩ = some (.int .i64 (u : Nat)) ∧ w14.cell? ⟨E, 2, none⟩ = some (.slice none 0 0)) := hide ⟨t0, t1, t2, t3⟩; have fS : Fr (Is gS) w14 (w14.setCell ⟨gS, 0, none⟩ (.slice A14 (q + 1) c14)) := (Fr.refl (Is gS) w14).put 0 _; have TS4 : Hid ((w14.setCell ⟨gS, 0, none⟩ (.slice A14 (q + 1) c14)).cell? ⟨w.heap.size, 0, none⟩ = some (.pointer (some ⟨gS, 0, none⟩)) ∧ (w14.setCell ⟨gS, 0, none⟩ (.slice A14 (q + 1) c14)).cell? ⟨E, 0, none⟩ = some (.int .i64 (t : Nat)) ∧ (w14.setCell ⟨gS, 0, none⟩ (.slice A14 (q + 1) c14)).cell? ⟨E, 1, none⟩ = some (.int .i64 (u : Nat)) ∧ (w14.setCell ⟨gS, 0, none⟩ (.slice A14 (q + 1) c14)).cell? ⟨E, 2, none⟩ = some (.slice none 0 0)) := hide ⟨fS.cell (p := ⟨w.heap.size, 0, none⟩) t0 (fun e => by have e : w.heap.size = gS := e; have := HO12.out.hS; omega), fS.cell (p := ⟨E, 0, none⟩) t1 (fun e => HEs.out e), fS.cell (p := ⟨E, 1, none⟩) t2 (fun e => HEs.out e), fS.cell (p := ⟨E, 2, none⟩) t3 (fun e => HEs.out e)⟩; clear hown hfr14 s0 t0 t1 t2 t3 fS
              refine hK1.out _ _ TS3.out (fun hHeld => ?_)
              clear hK1 K1
              try simp only [Act.put, List.setIfInBounds_toArray, List.set_cons_zero, List.set_cons_succ]
              refine wpAnyH_take (i := 8) (v := ?_) rfl (by kernel_rfl) (by kernel_rfl) (by kernel_rfl) (fun _ _ _ h => h) (Or.inl ⟨by kernel_rfl, ?_⟩) (by assumption) ?_
              rotate_left 1
              · (intro w' hSw; (try dsimp only at hSw); go_simp; try with_reducible rfl)
              try simp only [Act.put, List.setIfInBounds_toArray, List.set_cons_zero, List.set_cons_succ]
              refine wpAnyH_take (i := 9) (v := ?_) rfl (by kernel_rfl) (by kernel_rfl) (by kernel_rfl) (fun _ _ _ h => h) (Or.inl ⟨by kernel_rfl, ?_⟩) (by assumption) ?_
              rotate_left 1
              · (intro w' hSw; (try dsimp only at hSw); go_simp; try with_reducible rfl)
              try simp only [Act.put, List.setIfInBounds_toArray, List.set_cons_zero, List.set_cons_succ]
              refine wpAnyH_ready (rs := [10]) (by kernel_rfl) (by simp) ?_
              refine AllReadyH.cons rfl (fun K1 hK1 => ?_) AllReadyH.nil
              go_simp
              refine hK1.out _ _ TS4.out (fun hHeld => ?_)
              clear hK1 K1
              try simp only [Act.put, List.setIfInBounds_toArray, List.set_cons_zero, List.set_cons_succ]
              refine wpAnyH_done (by kernel_rfl) ?_ _
              go_wp2
              go_meet
              refine ⟨.slice A14 (q + 1) c14, hide (HO12.out.add HPs.out HTr.out HSum.out HFa.out HF14.out ?_), hide ?_, ?_⟩
              · rw [← HU.out]; exact HO14.out
              · have hst := HF14.out.blk (HFa.out.blk HO12.out.st (fun h => h)) (fun e => HC13.out.row.ne_blk e (HFa.out.blk HO12.out.st (fun h => h)) (by decide))
                exact ((HZ12.out.fr0 HFa.out).off HF14.out (off_own HC13.out.row (by decide))).off ((Fr.refl (Is gS) w14).put 0 _) (off_is hst (by decide))
              · rw [World.cell?_setCell_other _ ⟨gS, 0, none⟩ ⟨E, 1, none⟩ _ (by intro h; injection h; exact HEs.out (by rename_i h _ _; exact h.symm))]
                exact HF14.out.cell (p := ⟨E, 1, none⟩) (HFa.out.cell (p := ⟨E, 1, none⟩) y4 (fun h => h)) (fun e => by have := HVE.out E e; omega)
            · go_simp
              refine hK1.out _ _ TS2.out (fun hHeld => ?_)
              clear hK1 K1
              try simp only [Act.put, List.setIfInBounds_toArray, List.set_cons_zero, List.set_cons_succ]
              refine wpAnyH_ready (rs := [4]) (by kernel_rfl) (by simp) ?_
              refine AllReadyH.cons rfl (fun K1 hK1 => ?_) AllReadyH.nil
              go_simp
              refine hK1.out _ _ TS2.out (fun hHeld => ?_)
              clear hK1 K1
              try simp only [Act.put, List.setIfInBounds_toArray, List.set_cons_zero, List.set_cons_succ]
              refine wpAnyH_ready (rs := [7]) (by kernel_rfl) (by simp) ?_
              refine AllReadyH.cons rfl (fun K1 hK1 => ?_) AllReadyH.nil
              refine step_append_any rfl (.tmp 71) (.tmp 73) 101 101 rfl w.heap.size 106 i0 _ 3 40 Try.underlying101 hi0 hz0 hsz0 hby0 rfl (.slice Av q cv) q (cFlat ps) rfl HC13.out.row _ 1 [.int .i64 (t : Nat), .int .i64 (u : Nat), .slice none 0 0] rfl HS13.out c1 c2 c3 ?_; intro v14 w14 hown hfr14; obtain ⟨A14, c14, rfl, _⟩ := hown.form; have HO14 := hide hown; have HF14 := hide hfr14; have s0 : ¬ (Value.slice Av q cv).ownBlock = some gS := (fun e => HC13.out.row.ne_blk e (HFa.out.blk HO12.out.st (fun h => h)) (by decide)); have s1 : w14.cell? ⟨gS, 0, none⟩ = some (.slice Av q cv) := hfr14.cell (p := ⟨gS, 0, none⟩) z2 s0; have s2 : w14.frozen? ⟨gS, 0, none⟩ = false := frozen_of_row _ _ _ _ _ (hfr14.blk (HFa.out.blk HO12.out.st (fun h => h)) s0); have t0 := hfr14.cell (p := ⟨w.heap.size, 0, none⟩) TS2.out.1 (fun e => HC13.out.row.ne_blk e (HFa.out.blk HO12.out.b1 (fun h => h)) (by decide)); have t1 := hfr14.cell (p := ⟨E, 0, none⟩) TS2.out.2.1 (fun e => by have := HVE.out E e; omega); have t2 := hfr14.cell (p := ⟨E, 1, none⟩) TS2.out.2.2.1 (fun e => by have := HVE.out E e; omega); have t3 := hfr14.cell (p := ⟨E, 2, none⟩) TS2.out.2.2.2 (fun e => by have := HVE.out E e; omega); have TS3 : Hid (w14.cell? ⟨w.heap.size, 0, none⟩ = some (.pointer (some ⟨gS, 0, none⟩)) ∧ w14.cell? ⟨E, 0, none⟩ = some (.int .i64 (t : Nat)) ∧ w14.cell? ⟨E, 1, none⟩ = some (.int .i64 (u : Nat)) ∧ w14.cell? ⟨E, 2, none⟩ = some (.slice none 0 0)) := hide ⟨t0, t1, t2, t3⟩; have fS : Fr (Is gS) w14 (w14.setCell ⟨gS, 0, none⟩ (.slice A14 (q + 1) c14)) := (Fr.refl (Is gS) w14).put 0 _; have TS4 : Hid ((w14.setCell ⟨gS, 0, none⟩ (.slice A14 (q + 1) c14)).cell? ⟨w.heap.size, 0, none⟩ = some (.pointer (some ⟨gS, 0, none⟩)) ∧ (w14.setCell ⟨gS, 0, none⟩ (.slice A14 (q + 1) c14)).cell? ⟨E, 0, none⟩ = some (.int .i64 (t : Nat)) ∧ (w14.setCell ⟨gS, 0, none⟩ (.slice A14 (q + 1) c14)).cell? ⟨E, 1, none⟩ = some (.int .i64 (u : Nat)) ∧ (w14.setCell ⟨gS, 0, none⟩ (.slice A14 (q + 1) c14)).cell? ⟨E, 2, none⟩ = some (.slice none 0 0)) := hide ⟨fS.cell (p := ⟨w.heap.size, 0, none⟩) t0 (fun e => by have e : w.heap.size = gS := e; have := HO12.out.hS; omega), fS.cell (p := ⟨E, 0, none⟩) t1 (fun e => HEs.out e), fS.cell (p := ⟨E, 1, none⟩) t2 (fun e => HEs.out e), fS.cell (p := ⟨E, 2, none⟩) t3 (fun e => HEs.out e)⟩; clear hown hfr14 s0 t0 t1 t2 t3 fS
              refine hK1.out _ _ TS3.out (fun hHeld => ?_)
              clear hK1 K1
              try simp only [Act.put, List.setIfInBounds_toArray, List.set_cons_zero, List.set_cons_succ]
              refine wpAnyH_take (i := 8) (v := ?_) rfl (by kernel_rfl) (by kernel_rfl) (by kernel_rfl) (fun _ _ _ h => h) (Or.inl ⟨by kernel_rfl, ?_⟩) (by assumption) ?_
              rotate_left 1
              · (intro w' hSw; (try dsimp only at hSw); go_simp; try with_reducible rfl)
              try simp only [Act.put, List.setIfInBounds_toArray, List.set_cons_zero, List.set_cons_succ]
              refine wpAnyH_take (i := 9) (v := ?_) rfl (by kernel_rfl) (by kernel_rfl) (by kernel_rfl) (fun _ _ _ h => h) (Or.inl ⟨by kernel_rfl, ?_⟩) (by assumption) ?_
              rotate_left 1
              · (intro w' hSw; (try dsimp only at hSw); go_simp; try with_reducible rfl)
              try simp only [Act.put, List.setIfInBounds_toArray, List.set_cons_zero, List.set_cons_succ]
              refine wpAnyH_ready (rs := [10]) (by kernel_rfl) (by simp) ?_
              refine AllReadyH.cons rfl (fun K1 hK1 => ?_) AllReadyH.nil
              go_simp
              refine hK1.out _ _ TS4.out (fun hHeld => ?_)
              clear hK1 K1
              try simp only [Act.put, List.setIfInBounds_toArray, List.set_cons_zero, List.set_cons_succ]
              refine wpAnyH_done (by kernel_rfl) ?_ _
              go_wp2
              go_meet
              refine ⟨.slice A14 (q + 1) c14, hide (HO12.out.add HPs.out HTr.out HSum.out HFa.out HF14.out ?_), hide ?_, ?_⟩
              · rw [← HU.out]; exact HO14.out
              · have hst := HF14.out.blk (HFa.out.blk HO12.out.st (fun h => h)) (fun e => HC13.out.row.ne_blk e (HFa.out.blk HO12.out.st (fun h => h)) (by decide))
                exact ((HZ12.out.fr0 HFa.out).off HF14.out (off_own HC13.out.row (by decide))).off ((Fr.refl (Is gS) w14).put 0 _) (off_is hst (by decide))
              · rw [World.cell?_setCell_other _ ⟨gS, 0, none⟩ ⟨E, 1, none⟩ _ (by intro h; injection h; exact HEs.out (by rename_i h _ _; exact h.symm))]
                exact HF14.out.cell (p := ⟨E, 1, none⟩) (HFa.out.cell (p := ⟨E, 1, none⟩) y4 (fun h => h)) (fun e => by have := HVE.out E e; omega)
          case rest =>
            obtain ⟨v', HO15, HZ15, e15⟩ := hcut
            refine hK _ _ ?_
            clear y1 y2 y3 y4 y5 z1 z2 hK
            go_wp2
            go_roundw
            case rel => exact ⟨q + 1, u, x2, ks ++ [(k1, k2)], v', by omega, by go_num, rfl, by have := HU.out; omega, hide (by rw [HSt.out, if_pos (by refine ⟨?_, g1, g2⟩; first | rfl | trivial), HU.out]), HO15, HZ15⟩
            case measure => simp [intOf]; omega
        · have HNo := hide (no_tab HS1.out HS2.out (fun ks' a' h => by
            have h1 : hdrS bs m N (q + 1) a2 = none := by rw [HSt.out, if_neg hgood]
            rw [HL.out, hdrS_none h1 C (by omega)] at h
            cases h))
          obtain ⟨ht1, ht2, ht3, ht4⟩ := HT12.out
          by_cases hk0 : k1 = 0
          · have hd1 : decide ((t : Int) < (u : Int)) = false := decide_eq_false (by have := HU.out; omega)
            have hd2 : decide (t < u) = false := decide_eq_false (by have := HU.out; omega)
            clear hgood
            have HGo := hide (good_bad g bs x2 ε2 false w10.drew (HO10.out.rd.fr0 ((Fr.refl No _).drew)) (.inr rfl))
            refine wp_mono (Q := QP (fun _ _ => False) (fun ch W => ∀ tmps : Array Value, tmps[2]? = some (.pointer (some ⟨w.heap.size, 0, none⟩)) → tmps[3]? = some (.pointer (some ⟨w.heap.size + 1, 0, none⟩)) → LeavesInM Fence.wide fr Try.prog Try.f43 tmps (OpenPost w bs) [clD w.heap.size (w.heap.size + 1)] (.panicking ch) W) (.pointer (some ⟨w.heap.size, 0, none⟩)) (.pointer (some ⟨w.heap.size + 1, 0, none⟩)) [clD w.heap.size (w.heap.size + 1)]) ?_ ?_
            · refine wp_region_held_drew (S := fun W => W.cell? ⟨E, 0, none⟩ = some (.int .i64 (t : Nat)) ∧ W.cell? ⟨E, 1, none⟩ = some (.int .i64 (u : Nat)) ∧ W.cell? ⟨w.heap.size, 0, none⟩ = some (.pointer (some ⟨gS, 0, none⟩)) ∧ W.cell? ⟨gS, 1, none⟩ = some (.int .i64 (N : Nat))) (by kernel_rfl) HT12.out (fun hHeld => ?_)
              refine wpAnyH_take (i := 0) (v := ?_) rfl (by kernel_rfl) (by kernel_rfl) (by kernel_rfl) (fun _ _ _ h => QP.put (by decide) (by decide) h) (Or.inl ⟨by kernel_rfl, ?_⟩) (by assumption) ?_
              rotate_left 1
              · (intro w' hSw; (try dsimp only at hSw); go_simp; try with_reducible rfl)
              try simp only [Act.put, List.setIfInBounds_toArray, List.set_cons_zero, List.set_cons_succ]
              refine wpAnyH_take (i := 1) (v := ?_) rfl (by kernel_rfl) (by kernel_rfl) (by kernel_rfl) (fun _ _ _ h => QP.put (by decide) (by decide) h) (Or.inl ⟨by kernel_rfl, ?_⟩) (by assumption) ?_
              rotate_left 1
              · (intro w' hSw; (try dsimp only at hSw); go_simp; try with_reducible rfl)
              try simp only [Act.put, List.setIfInBounds_toArray, List.set_cons_zero, List.set_cons_succ]
              refine wpAnyH_take (i := 2) (v := ?_) rfl (by kernel_rfl) (by kernel_rfl) (by kernel_rfl) (fun _ _ _ h => QP.put (by decide) (by decide) h) (Or.inl ⟨by kernel_rfl, ?_⟩) (by assumption) ?_
              rotate_left 1
              · (intro w' hSw; (try dsimp only at hSw); go_simp; try with_reducible rfl)
              try simp only [Act.put, List.setIfInBounds_toArray, List.set_cons_zero, List.set_cons_succ]
              refine wpAnyH_take (i := 3) (v := ?_) rfl (by kernel_rfl) (by kernel_rfl) (by kernel_rfl) (fun _ _ _ h => QP.put (by decide) (by decide) h) (Or.inl ⟨by kernel_rfl, ?_⟩) (by assumption) ?_
              rotate_left 1
              · (intro w' hSw; (try dsimp only at hSw); go_simp; try with_reducible rfl)
              try simp only [Act.put, List.setIfInBounds_toArray, List.set_cons_zero, List.set_cons_succ]
              refine wpAnyH_take (i := 4) (v := ?_) rfl (by kernel_rfl) (by kernel_rfl) (by kernel_rfl) (fun _ _ _ h => QP.put (by decide) (by decide) h) (Or.inl ⟨by kernel_rfl, ?_⟩) (by assumption) ?_
              rotate_left 1
              · (intro w' hSw; (try dsimp only at hSw); go_simp; try with_reducible rfl)
              try simp only [Act.put, List.setIfInBounds_toArray, List.set_cons_zero, List.set_cons_succ]
              refine wpAnyH_take (i := 5) (v := ?_) rfl (by kernel_rfl) (by kernel_rfl) (by kernel_rfl) (fun _ _ _ h => QP.put (by decide) (by decide) h) (Or.inl ⟨by kernel_rfl, ?_⟩) (by assumption) ?_
              rotate_left 1
              · (intro w' hSw; (try dsimp only at hSw); go_simp; try with_reducible rfl)
              try simp only [Act.put, List.setIfInBounds_toArray, List.set_cons_zero, List.set_cons_succ]
              refine wpAnyH_take (i := 6) (v := ?_) rfl (by kernel_rfl) (by kernel_rfl) (by kernel_rfl) (fun _ _ _ h => QP.put (by decide) (by decide) h) (Or.inl ⟨by kernel_rfl, ?_⟩) (by assumption) ?_
              rotate_left 1
              · (intro w' hSw; (try dsimp only at hSw); go_simp; try with_reducible rfl)
              try simp only [Act.put, List.setIfInBounds_toArray, List.set_cons_zero, List.set_cons_succ]
              refine wpAnyH_take (i := 7) (v := undef) rfl (by kernel_rfl) (by kernel_rfl) (by kernel_rfl) (fun _ _ _ h => QP.put (by decide) (by decide) h) (Or.inr ⟨by kernel_rfl, rfl⟩) (by assumption) ?_
              try simp only [Act.put, List.setIfInBounds_toArray, List.set_cons_zero, List.set_cons_succ]
              refine wpAnyH_take (i := 8) (v := undef) rfl (by kernel_rfl) (by kernel_rfl) (by kernel_rfl) (fun _ _ _ h => QP.put (by decide) (by decide) h) (Or.inr ⟨by kernel_rfl, rfl⟩) (by assumption) ?_
              try simp only [Act.put, List.setIfInBounds_toArray, List.set_cons_zero, List.set_cons_succ]
              refine wpAnyH_take (i := 9) (v := undef) rfl (by kernel_rfl) (by kernel_rfl) (by kernel_rfl) (fun _ _ _ h => QP.put (by decide) (by decide) h) (Or.inr ⟨by kernel_rfl, rfl⟩) (by assumption) ?_
              try simp only [Act.put, List.setIfInBounds_toArray, List.set_cons_zero, List.set_cons_succ]
              refine wpAnyH_take (i := 10) (v := undef) rfl (by kernel_rfl) (by kernel_rfl) (by kernel_rfl) (fun _ _ _ h => QP.put (by decide) (by decide) h) (Or.inr ⟨by kernel_rfl, rfl⟩) (by assumption) ?_
              try simp only [Act.put, List.setIfInBounds_toArray, List.set_cons_zero, List.set_cons_succ]
              refine wpAnyH_take (i := 11) (v := undef) rfl (by kernel_rfl) (by kernel_rfl) (by kernel_rfl) (fun _ _ _ h => QP.put (by decide) (by decide) h) (Or.inr ⟨by kernel_rfl, rfl⟩) (by assumption) ?_
              try simp only [Act.put, List.setIfInBounds_toArray, List.set_cons_zero, List.set_cons_succ]
              refine wpAnyH_take (i := 12) (v := undef) rfl (by kernel_rfl) (by kernel_rfl) (by kernel_rfl) (fun _ _ _ h => QP.put (by decide) (by decide) h) (Or.inr ⟨by kernel_rfl, rfl⟩) (by assumption) ?_
              try simp only [Act.put, List.setIfInBounds_toArray, List.set_cons_zero, List.set_cons_succ]
              refine wpAnyH_take (i := 13) (v := undef) rfl (by kernel_rfl) (by kernel_rfl) (by kernel_rfl) (fun _ _ _ h => QP.put (by decide) (by decide) h) (Or.inr ⟨by kernel_rfl, rfl⟩) (by assumption) ?_
              try simp only [Act.put, List.setIfInBounds_toArray, List.set_cons_zero, List.set_cons_succ]
              refine wpAnyH_take (i := 14) (v := ?_) rfl (by kernel_rfl) (by kernel_rfl) (by kernel_rfl) (fun _ _ _ h => QP.put (by decide) (by decide) h) (Or.inl ⟨by kernel_rfl, ?_⟩) (by assumption) ?_
              rotate_left 1
              · (intro w' hSw; (try dsimp only at hSw); go_simp; try with_reducible rfl)
              try simp only [Act.put, List.setIfInBounds_toArray, List.set_cons_zero, List.set_cons_succ]
              refine wpAnyH_ready (rs := [15]) (by kernel_rfl) (by simp) ?_
              refine AllReadyH.cons rfl (fun K' hK' => ?_) AllReadyH.nil
              go_simp
              refine HGo.out.mono ?_
              rintro en w11 ⟨rfl, rfl⟩
              exact ⟨rfl, rfl, rfl, fun tm h2 h3 => (HO10.out.fr0 ((Fr.refl No _).drew)).bad (Ds := []) h2 h3 (Marks.nil _ _) HNo.out⟩
            · intro e a' w' hq
              cases e with
              | normal => exact hq.elim
              | panic ch =>
                obtain ⟨q1, q2, q3, q4⟩ := hq
                obtain ⟨tm, df⟩ := a'
                dsimp only at q1 q2 q3
                subst q3
                have q5 := q4 tm q1 q2
                clear q4
                go_wp2
                exact q5
              | ret => exact hq.elim
              | exit id => exact hq.elim
              | goto l => exact hq.elim
              | outgrown => exact hq.elim
          · have hd1 : decide ((t : Int) < (u : Int)) = true := decide_eq_true (by have := HU.out; omega)
            have hd2 : decide (t < u) = true := decide_eq_true (by have := HU.out; omega)
            by_cases hun : u ≤ N
            · have hd3 : decide ((u : Int) ≤ (N : Int)) = true := decide_eq_true (by omega)
              have hd4 : decide (u ≤ N) = true := decide_eq_true hun
              have hε : ε2 ≠ 0 := fun h => hgood ⟨h, by omega, by have := HU.out; omega⟩
              clear hgood
              have HGo := hide (good_bad g bs x2 ε2 true w10.drew (HO10.out.rd.fr0 ((Fr.refl No _).drew)) (.inl hε))
              refine wp_mono (Q := QP (fun _ _ => False) (fun ch W => ∀ tmps : Array Value, tmps[2]? = some (.pointer (some ⟨w.heap.size, 0, none⟩)) → tmps[3]? = some (.pointer (some ⟨w.heap.size + 1, 0, none⟩)) → LeavesInM Fence.wide fr Try.prog Try.f43 tmps (OpenPost w bs) [clD w.heap.size (w.heap.size + 1)] (.panicking ch) W) (.pointer (some ⟨w.heap.size, 0, none⟩)) (.pointer (some ⟨w.heap.size + 1, 0, none⟩)) [clD w.heap.size (w.heap.size + 1)]) ?_ ?_
              · refine wp_region_held_drew (S := fun W => W.cell? ⟨E, 0, none⟩ = some (.int .i64 (t : Nat)) ∧ W.cell? ⟨E, 1, none⟩ = some (.int .i64 (u : Nat)) ∧ W.cell? ⟨w.heap.size, 0, none⟩ = some (.pointer (some ⟨gS, 0, none⟩)) ∧ W.cell? ⟨gS, 1, none⟩ = some (.int .i64 (N : Nat))) (by kernel_rfl) HT12.out (fun hHeld => ?_)
                refine wpAnyH_take (i := 0) (v := ?_) rfl (by kernel_rfl) (by kernel_rfl) (by kernel_rfl) (fun _ _ _ h => QP.put (by decide) (by decide) h) (Or.inl ⟨by kernel_rfl, ?_⟩) (by assumption) ?_
                rotate_left 1
                · (intro w' hSw; (try dsimp only at hSw); go_simp; try with_reducible rfl)
                try simp only [Act.put, List.setIfInBounds_toArray, List.set_cons_zero, List.set_cons_succ]
                refine wpAnyH_take (i := 1) (v := ?_) rfl (by kernel_rfl) (by kernel_rfl) (by kernel_rfl) (fun _ _ _ h => QP.put (by decide) (by decide) h) (Or.inl ⟨by kernel_rfl, ?_⟩) (by assumption) ?_
                rotate_left 1
                · (intro w' hSw; (try dsimp only at hSw); go_simp; try with_reducible rfl)
                try simp only [Act.put, List.setIfInBounds_toArray, List.set_cons_zero, List.set_cons_succ]
                refine wpAnyH_take (i := 2) (v := ?_) rfl (by kernel_rfl) (by kernel_rfl) (by kernel_rfl) (fun _ _ _ h => QP.put (by decide) (by decide) h) (Or.inl ⟨by kernel_rfl, ?_⟩) (by assumption) ?_
                rotate_left 1
                · (intro w' hSw; (try dsimp only at hSw); go_simp; try with_reducible rfl)
                try simp only [Act.put, List.setIfInBounds_toArray, List.set_cons_zero, List.set_cons_succ]
                refine wpAnyH_take (i := 3) (v := ?_) rfl (by kernel_rfl) (by kernel_rfl) (by kernel_rfl) (fun _ _ _ h => QP.put (by decide) (by decide) h) (Or.inl ⟨by kernel_rfl, ?_⟩) (by assumption) ?_
                rotate_left 1
                · (intro w' hSw; (try dsimp only at hSw); go_simp; try with_reducible rfl)
                try simp only [Act.put, List.setIfInBounds_toArray, List.set_cons_zero, List.set_cons_succ]
                refine wpAnyH_take (i := 4) (v := ?_) rfl (by kernel_rfl) (by kernel_rfl) (by kernel_rfl) (fun _ _ _ h => QP.put (by decide) (by decide) h) (Or.inl ⟨by kernel_rfl, ?_⟩) (by assumption) ?_
                rotate_left 1
                · (intro w' hSw; (try dsimp only at hSw); go_simp; try with_reducible rfl)
                try simp only [Act.put, List.setIfInBounds_toArray, List.set_cons_zero, List.set_cons_succ]
                refine wpAnyH_take (i := 5) (v := ?_) rfl (by kernel_rfl) (by kernel_rfl) (by kernel_rfl) (fun _ _ _ h => QP.put (by decide) (by decide) h) (Or.inl ⟨by kernel_rfl, ?_⟩) (by assumption) ?_
                rotate_left 1
                · (intro w' hSw; (try dsimp only at hSw); go_simp; try with_reducible rfl)
                try simp only [Act.put, List.setIfInBounds_toArray, List.set_cons_zero, List.set_cons_succ]
                refine wpAnyH_take (i := 6) (v := ?_) rfl (by kernel_rfl) (by kernel_rfl) (by kernel_rfl) (fun _ _ _ h => QP.put (by decide) (by decide) h) (Or.inl ⟨by kernel_rfl, ?_⟩) (by assumption) ?_
                rotate_left 1
                · (intro w' hSw; (try dsimp only at hSw); go_simp; try with_reducible rfl)
                try simp only [Act.put, List.setIfInBounds_toArray, List.set_cons_zero, List.set_cons_succ]
                refine wpAnyH_take (i := 7) (v := ?_) rfl (by kernel_rfl) (by kernel_rfl) (by kernel_rfl) (fun _ _ _ h => QP.put (by decide) (by decide) h) (Or.inl ⟨by kernel_rfl, ?_⟩) (by assumption) ?_
                rotate_left 1
                · (intro w' hSw; (try dsimp only at hSw); go_simp; try with_reducible rfl)
                try simp only [Act.put, List.setIfInBounds_toArray, List.set_cons_zero, List.set_cons_succ]
                refine wpAnyH_take (i := 8) (v := ?_) rfl (by kernel_rfl) (by kernel_rfl) (by kernel_rfl) (fun _ _ _ h => QP.put (by decide) (by decide) h) (Or.inl ⟨by kernel_rfl, ?_⟩) (by assumption) ?_
                rotate_left 1
                · (intro w' hSw; (try dsimp only at hSw); go_simp; try with_reducible rfl)
                try simp only [Act.put, List.setIfInBounds_toArray, List.set_cons_zero, List.set_cons_succ]
                refine wpAnyH_take (i := 9) (v := ?_) rfl (by kernel_rfl) (by kernel_rfl) (by kernel_rfl) (fun _ _ _ h => QP.put (by decide) (by decide) h) (Or.inl ⟨by kernel_rfl, ?_⟩) (by assumption) ?_
                rotate_left 1
                · (intro w' hSw; (try dsimp only at hSw); go_simp; try with_reducible rfl)
                try simp only [Act.put, List.setIfInBounds_toArray, List.set_cons_zero, List.set_cons_succ]
                refine wpAnyH_take (i := 10) (v := ?_) rfl (by kernel_rfl) (by kernel_rfl) (by kernel_rfl) (fun _ _ _ h => QP.put (by decide) (by decide) h) (Or.inl ⟨by kernel_rfl, ?_⟩) (by assumption) ?_
                rotate_left 1
                · (intro w' hSw; (try dsimp only at hSw); go_simp; try with_reducible rfl)
                try simp only [Act.put, List.setIfInBounds_toArray, List.set_cons_zero, List.set_cons_succ]
                refine wpAnyH_take (i := 11) (v := ?_) rfl (by kernel_rfl) (by kernel_rfl) (by kernel_rfl) (fun _ _ _ h => QP.put (by decide) (by decide) h) (Or.inl ⟨by kernel_rfl, ?_⟩) (by assumption) ?_
                rotate_left 1
                · (intro w' hSw; (try dsimp only at hSw); go_simp; try with_reducible rfl)
                try simp only [Act.put, List.setIfInBounds_toArray, List.set_cons_zero, List.set_cons_succ]
                refine wpAnyH_take (i := 12) (v := ?_) rfl (by kernel_rfl) (by kernel_rfl) (by kernel_rfl) (fun _ _ _ h => QP.put (by decide) (by decide) h) (Or.inl ⟨by kernel_rfl, ?_⟩) (by assumption) ?_
                rotate_left 1
                · (intro w' hSw; (try dsimp only at hSw); go_simp; try with_reducible rfl)
                try simp only [Act.put, List.setIfInBounds_toArray, List.set_cons_zero, List.set_cons_succ]
                refine wpAnyH_take (i := 13) (v := ?_) rfl (by kernel_rfl) (by kernel_rfl) (by kernel_rfl) (fun _ _ _ h => QP.put (by decide) (by decide) h) (Or.inl ⟨by kernel_rfl, ?_⟩) (by assumption) ?_
                rotate_left 1
                · (intro w' hSw; (try dsimp only at hSw); go_simp; try with_reducible rfl)
                try simp only [Act.put, List.setIfInBounds_toArray, List.set_cons_zero, List.set_cons_succ]
                refine wpAnyH_take (i := 14) (v := ?_) rfl (by kernel_rfl) (by kernel_rfl) (by kernel_rfl) (fun _ _ _ h => QP.put (by decide) (by decide) h) (Or.inl ⟨by kernel_rfl, ?_⟩) (by assumption) ?_
                rotate_left 1
                · (intro w' hSw; (try dsimp only at hSw); go_simp; try with_reducible rfl)
                try simp only [Act.put, List.setIfInBounds_toArray, List.set_cons_zero, List.set_cons_succ]
                refine wpAnyH_ready (rs := [15]) (by kernel_rfl) (by simp) ?_
                refine AllReadyH.cons rfl (fun K' hK' => ?_) AllReadyH.nil
                go_simp
                refine HGo.out.mono ?_
                rintro en w11 ⟨rfl, rfl⟩
                exact ⟨rfl, rfl, rfl, fun tm h2 h3 => (HO10.out.fr0 ((Fr.refl No _).drew)).bad (Ds := []) h2 h3 (Marks.nil _ _) HNo.out⟩
              · intro e a' w' hq
                cases e with
                | normal => exact hq.elim
                | panic ch =>
                  obtain ⟨q1, q2, q3, q4⟩ := hq
                  obtain ⟨tm, df⟩ := a'
                  dsimp only at q1 q2 q3
                  subst q3
                  have q5 := q4 tm q1 q2
                  clear q4
                  go_wp2
                  exact q5
                | ret => exact hq.elim
                | exit id => exact hq.elim
                | goto l => exact hq.elim
                | outgrown => exact hq.elim
            · have hd3 : decide ((u : Int) ≤ (N : Int)) = false := decide_eq_false (by omega)
              have hd4 : decide (u ≤ N) = false := decide_eq_false hun
              clear hgood
              have HGo := hide (good_bad g bs x2 ε2 false w10.drew (HO10.out.rd.fr0 ((Fr.refl No _).drew)) (.inr rfl))
              refine wp_mono (Q := QP (fun _ _ => False) (fun ch W => ∀ tmps : Array Value, tmps[2]? = some (.pointer (some ⟨w.heap.size, 0, none⟩)) → tmps[3]? = some (.pointer (some ⟨w.heap.size + 1, 0, none⟩)) → LeavesInM Fence.wide fr Try.prog Try.f43 tmps (OpenPost w bs) [clD w.heap.size (w.heap.size + 1)] (.panicking ch) W) (.pointer (some ⟨w.heap.size, 0, none⟩)) (.pointer (some ⟨w.heap.size + 1, 0, none⟩)) [clD w.heap.size (w.heap.size + 1)]) ?_ ?_
              · refine wp_region_held_drew (S := fun W => W.cell? ⟨E, 0, none⟩ = some (.int .i64 (t : Nat)) ∧ W.cell? ⟨E, 1, none⟩ = some (.int .i64 (u : Nat)) ∧ W.cell? ⟨w.heap.size, 0, none⟩ = some (.pointer (some ⟨gS, 0, none⟩)) ∧ W.cell? ⟨gS, 1, none⟩ = some (.int .i64 (N : Nat))) (by kernel_rfl) HT12.out (fun hHeld => ?_)
                refine wpAnyH_take (i := 0) (v := ?_) rfl (by kernel_rfl) (by kernel_rfl) (by kernel_rfl) (fun _ _ _ h => QP.put (by decide) (by decide) h) (Or.inl ⟨by kernel_rfl, ?_⟩) (by assumption) ?_
                rotate_left 1
                · (intro w' hSw; (try dsimp only at hSw); go_simp; try with_reducible rfl)
                try simp only [Act.put, List.setIfInBounds_toArray, List.set_cons_zero, List.set_cons_succ]
                refine wpAnyH_take (i := 1) (v := ?_) rfl (by kernel_rfl) (by kernel_rfl) (by kernel_rfl) (fun _ _ _ h => QP.put (by decide) (by decide) h) (Or.inl ⟨by kernel_rfl, ?_⟩) (by assumption) ?_
                rotate_left 1
                · (intro w' hSw; (try dsimp only at hSw); go_simp; try with_reducible rfl)
                try simp only [Act.put, List.setIfInBounds_toArray, List.set_cons_zero, List.set_cons_succ]
                refine wpAnyH_take (i := 2) (v := ?_) rfl (by kernel_rfl) (by kernel_rfl) (by kernel_rfl) (fun _ _ _ h => QP.put (by decide) (by decide) h) (Or.inl ⟨by kernel_rfl, ?_⟩) (by assumption) ?_
                rotate_left 1
                · (intro w' hSw; (try dsimp only at hSw); go_simp; try with_reducible rfl)
                try simp only [Act.put, List.setIfInBounds_toArray, List.set_cons_zero, List.set_cons_succ]
                refine wpAnyH_take (i := 3) (v := ?_) rfl (by kernel_rfl) (by kernel_rfl) (by kernel_rfl) (fun _ _ _ h => QP.put (by decide) (by decide) h) (Or.inl ⟨by kernel_rfl, ?_⟩) (by assumption) ?_
                rotate_left 1
                · (intro w' hSw; (try dsimp only at hSw); go_simp; try with_reducible rfl)
                try simp only [Act.put, List.setIfInBounds_toArray, List.set_cons_zero, List.set_cons_succ]
                refine wpAnyH_take (i := 4) (v := ?_) rfl (by kernel_rfl) (by kernel_rfl) (by kernel_rfl) (fun _ _ _ h => QP.put (by decide) (by decide) h) (Or.inl ⟨by kernel_rfl, ?_⟩) (by assumption) ?_
                rotate_left 1
                · (intro w' hSw; (try dsimp only at hSw); go_simp; try with_reducible rfl)
                try simp only [Act.put, List.setIfInBounds_toArray, List.set_cons_zero, List.set_cons_succ]
                refine wpAnyH_take (i := 5) (v := ?_) rfl (by kernel_rfl) (by kernel_rfl) (by kernel_rfl) (fun _ _ _ h => QP.put (by decide) (by decide) h) (Or.inl ⟨by kernel_rfl, ?_⟩) (by assumption) ?_
                rotate_left 1
                · (intro w' hSw; (try dsimp only at hSw); go_simp; try with_reducible rfl)
                try simp only [Act.put, List.setIfInBounds_toArray, List.set_cons_zero, List.set_cons_succ]
                refine wpAnyH_take (i := 6) (v := ?_) rfl (by kernel_rfl) (by kernel_rfl) (by kernel_rfl) (fun _ _ _ h => QP.put (by decide) (by decide) h) (Or.inl ⟨by kernel_rfl, ?_⟩) (by assumption) ?_
                rotate_left 1
                · (intro w' hSw; (try dsimp only at hSw); go_simp; try with_reducible rfl)
                try simp only [Act.put, List.setIfInBounds_toArray, List.set_cons_zero, List.set_cons_succ]
                refine wpAnyH_take (i := 7) (v := ?_) rfl (by kernel_rfl) (by kernel_rfl) (by kernel_rfl) (fun _ _ _ h => QP.put (by decide) (by decide) h) (Or.inl ⟨by kernel_rfl, ?_⟩) (by assumption) ?_
                rotate_left 1
                · (intro w' hSw; (try dsimp only at hSw); go_simp; try with_reducible rfl)
                try simp only [Act.put, List.setIfInBounds_toArray, List.set_cons_zero, List.set_cons_succ]
                refine wpAnyH_take (i := 8) (v := ?_) rfl (by kernel_rfl) (by kernel_rfl) (by kernel_rfl) (fun _ _ _ h => QP.put (by decide) (by decide) h) (Or.inl ⟨by kernel_rfl, ?_⟩) (by assumption) ?_
                rotate_left 1
                · (intro w' hSw; (try dsimp only at hSw); go_simp; try with_reducible rfl)
                try simp only [Act.put, List.setIfInBounds_toArray, List.set_cons_zero, List.set_cons_succ]
                refine wpAnyH_take (i := 9) (v := ?_) rfl (by kernel_rfl) (by kernel_rfl) (by kernel_rfl) (fun _ _ _ h => QP.put (by decide) (by decide) h) (Or.inl ⟨by kernel_rfl, ?_⟩) (by assumption) ?_
                rotate_left 1
                · (intro w' hSw; (try dsimp only at hSw); go_simp; try with_reducible rfl)
                try simp only [Act.put, List.setIfInBounds_toArray, List.set_cons_zero, List.set_cons_succ]
                refine wpAnyH_take (i := 10) (v := ?_) rfl (by kernel_rfl) (by kernel_rfl) (by kernel_rfl) (fun _ _ _ h => QP.put (by decide) (by decide) h) (Or.inl ⟨by kernel_rfl, ?_⟩) (by assumption) ?_
                rotate_left 1
                · (intro w' hSw; (try dsimp only at hSw); go_simp; try with_reducible rfl)
                try simp only [Act.put, List.setIfInBounds_toArray, List.set_cons_zero, List.set_cons_succ]
                refine wpAnyH_take (i := 11) (v := ?_) rfl (by kernel_rfl) (by kernel_rfl) (by kernel_rfl) (fun _ _ _ h => QP.put (by decide) (by decide) h) (Or.inl ⟨by kernel_rfl, ?_⟩) (by assumption) ?_
                rotate_left 1
                · (intro w' hSw; (try dsimp only at hSw); go_simp; try with_reducible rfl)
                try simp only [Act.put, List.setIfInBounds_toArray, List.set_cons_zero, List.set_cons_succ]
                refine wpAnyH_take (i := 12) (v := ?_) rfl (by kernel_rfl) (by kernel_rfl) (by kernel_rfl) (fun _ _ _ h => QP.put (by decide) (by decide) h) (Or.inl ⟨by kernel_rfl, ?_⟩) (by assumption) ?_
                rotate_left 1
                · (intro w' hSw; (try dsimp only at hSw); go_simp; try with_reducible rfl)
                try simp only [Act.put, List.setIfInBounds_toArray, List.set_cons_zero, List.set_cons_succ]
                refine wpAnyH_take (i := 13) (v := ?_) rfl (by kernel_rfl) (by kernel_rfl) (by kernel_rfl) (fun _ _ _ h => QP.put (by decide) (by decide) h) (Or.inl ⟨by kernel_rfl, ?_⟩) (by assumption) ?_
                rotate_left 1
                · (intro w' hSw; (try dsimp only at hSw); go_simp; try with_reducible rfl)
                try simp only [Act.put, List.setIfInBounds_toArray, List.set_cons_zero, List.set_cons_succ]
                refine wpAnyH_take (i := 14) (v := ?_) rfl (by kernel_rfl) (by kernel_rfl) (by kernel_rfl) (fun _ _ _ h => QP.put (by decide) (by decide) h) (Or.inl ⟨by kernel_rfl, ?_⟩) (by assumption) ?_
                rotate_left 1
                · (intro w' hSw; (try dsimp only at hSw); go_simp; try with_reducible rfl)
                try simp only [Act.put, List.setIfInBounds_toArray, List.set_cons_zero, List.set_cons_succ]
                refine wpAnyH_ready (rs := [15]) (by kernel_rfl) (by simp) ?_
                refine AllReadyH.cons rfl (fun K' hK' => ?_) AllReadyH.nil
                go_simp
                refine HGo.out.mono ?_
                rintro en w11 ⟨rfl, rfl⟩
                exact ⟨rfl, rfl, rfl, fun tm h2 h3 => (HO10.out.fr0 ((Fr.refl No _).drew)).bad (Ds := []) h2 h3 (Marks.nil _ _) HNo.out⟩
              · intro e a' w' hq
                cases e with
                | normal => exact hq.elim
                | panic ch =>
                  obtain ⟨q1, q2, q3, q4⟩ := hq
                  obtain ⟨tm, df⟩ := a'
                  dsimp only at q1 q2 q3
                  subst q3
                  have q5 := q4 tm q1 q2
                  clear q4
                  go_wp2
                  exact q5
                | ret => exact hq.elim
                | exit id => exact hq.elim
                | goto l => exact hq.elim
                | outgrown => exact hq.elim
      · obtain rfl : q = C := by omega
        clear hlt
        have y1 : wo.cell? ⟨w.heap.size, 0, none⟩ = some (.pointer (some ⟨gS, 0, none⟩)) := cell_of_row wo _ 0 _ _ _ HO.out.b1
        have y2 : wo.cell? ⟨gS, 1, none⟩ = some (.int .i64 (N : Nat)) := cell_of_row wo _ 1 _ _ _ HO.out.st
        by_cases htN2 : t = N
        · subst htN2
          have HGo := hide (good_ok g bs b wo HO.out.rd)
          obtain ⟨ps, hps, htr⟩ := HO.out.ch
          obtain ⟨Av, cv, rfl, _⟩ := hps.row.form
          have y3 : wo.cell? ⟨gS, 0, none⟩ = some (.slice Av q cv) := cell_of_row wo _ 0 _ _ _ HO.out.st
          clear hps htr
          go_wp2_with (fail)
          refine HGo.out.mono ?_
          rintro en w16 ⟨⟨r16, rfl⟩, rfl⟩
          go_wp2_with (fail)
          obtain ⟨wq, rfl⟩ : ∃ wq : World, wq = w16 := ⟨_, rfl⟩
          have HKs : Hid (ks.length = q) := hide (by obtain ⟨h, _⟩ := hdr_of _ _ _ _ HD.out; exact h)
          have HKb : Hid (sumK ks = t) := hide (by obtain ⟨_, _, _, _, h⟩ := hdr_of _ _ _ _ HD.out; exact h.symm)
          have HKm : Hid (∀ k ∈ ks, 0 < k.1 ∧ k.2 ≤ m) := hide (by obtain ⟨_, h, _⟩ := hdr_of _ _ _ _ HD.out; exact h)
          have HD2 : Hid (hdrS bs bs.length t q a2 = some (ks, b, t)) := hide (by rw [HL.out]; exact HD.out)
          have e117 : ∀ args w, (callFunc 104 args).run Try.prog w = .ok (.enter 104 args) w := enters_of Try.func104 (by kernel_rfl) rfl
          have HEg := hide e117
          have HZ2 : Hid (Own wq gZ 3 1 (.slice (some ⟨gZ, 0, none⟩) q q) q (ints (ks.map (·.2)))) := hide (by have h := HZ.out; rw [Nat.sub_self, List.replicate_zero, List.append_nil] at h; exact h)
          clear y1 y2 y3 HGo e117
          refine wp_loop (fun a' W' => ∃ (x10 x11 x93 x94 x95 x96 x97 x98 x99 x100 x101 x102 x103 x104 x105 x106 x107 x108 x109 x110 x111 x112 x113 x114 x115 x116 x119 : Value) (Ds : List Nat) (i b2 : Nat) (cs : List ChV), Hid (cs.length = i) ∧ i ≤ q ∧ x93 = .int .i64 (i : Nat) ∧ Hid (bodS bs ks i b = some (cs, b2)) ∧ Hid (OpS w W' g gS bs b2 0 t (.slice Av q cv) q (cntC cs ++ noB (ks.drop i))) ∧ Hid (Own W' gZ 3 1 (.slice (some ⟨gZ, 0, none⟩) q q) q (ints (ks.map (·.2)))) ∧ Hid (Marks w W' Ds) ∧ a' = { tmps := #[.slice A m c, undef, .pointer (some ⟨w.heap.size, 0, none⟩), .pointer (some ⟨w.heap.size + 1, 0, none⟩), .pointer (some ⟨g, 0, none⟩), .int .i64 ((q : Nat) : Int), .int .i64 ((t : Nat) : Int), .slice (some ⟨gZ, 0, none⟩) q q, u8, u9, x10, x11, undef, undef, undef, undef, undef, .func (.func 75) #[] #[.pointer (some ⟨w.heap.size, 0, none⟩), .pointer (some ⟨w.heap.size + 1, 0, none⟩)], .slice A m c, .pointer (some ⟨g, 0, none⟩), .pointer (some ⟨g, 0, none⟩), .int .i64 ((t : Nat) : Int), .agg #[.slice none 0 0, .int .i64 ((t : Nat) : Int)], .pointer (some ⟨gS, 0, none⟩), .pointer (some ⟨g, 0, none⟩), .pointer (some ⟨gS, 0, none⟩), .pointer (some ⟨gS, 0, none⟩), .pointer (some ⟨gS, 1, none⟩), .int .i64 ((t : Nat) : Int), .int .i64 ((q : Nat) : Int), .pointer (some ⟨g, 0, none⟩), r5, .int .i64 ((q : Nat) : Int), .slice (some ⟨gZ, 0, none⟩) q q, .int .i64 ((q : Nat) : Int), .int .i64 ((q : Nat) : Int), .bool false, u37, u38, u39, u40, u41, u42, u43, u44, u45, u46, u47, u48, u49, u50, u51, u52, u53, u54, u55, u56, u57, u58, u59, u60, u61, u62, u63, u64, u65, u66, u67, u68, u69, u70, u71, u72, u73, u74, u75, u76, u77, u78, u79, .pointer (some ⟨g, 0, none⟩), .int .i64 ((t : Nat) : Int), .pointer (some ⟨gS, 0, none⟩), .pointer (some ⟨gS, 0, none⟩), .pointer (some ⟨gS, 1, none⟩), .int .i64 ((t : Nat) : Int), .bool true, r16, .pointer (some ⟨gS, 0, none⟩), .pointer (some ⟨gS, 0, none⟩), .pointer (some ⟨gS, 0, none⟩), .slice Av q cv, .int .i64 ((q : Nat) : Int), x93, x94, x95, x96, x97, x98, x99, x100, x101, x102, x103, x104, x105, x106, x107, x108, x109, x110, x111, x112, x113, x114, x115, x116, undef, undef, x119, undef, undef, undef, undef, undef, undef, undef, undef, undef, undef, undef, undef, undef, undef, undef, undef, undef, undef, undef, undef, undef, undef, undef, undef, undef, undef, undef, undef, undef, undef], defers := Ds.map mkD ++ [clD w.heap.size (w.heap.size + 1)] }) (fun a' _ => q - (intOf (a'.tmps.getD 93 undef)).toNat) ?_ ?_
          · exact ⟨undef, undef, .int .i64 0, undef, undef, undef, undef, undef, undef, undef, undef, undef, undef, undef, undef, undef, undef, undef, undef, undef, undef, undef, undef, undef, undef, undef, undef, [], 0, b, [], hide rfl, by omega, rfl, hide rfl, hide (by simpa [cntC] using HO.out), HZ2, hide (Marks.nil _ _), rfl⟩
          rintro _ wl ⟨x10, x11, x93, x94, x95, x96, x97, x98, x99, x100, x101, x102, x103, x104, x105, x106, x107, x108, x109, x110, x111, x112, x113, x114, x115, x116, x119, Ds, i, b2, cs, HCl, hiq, rfl, HBo, HOl, HZl, HMk, rfl⟩
          clear HO HZ HZ2
          by_cases hlt : i < q
          · have hltI : (i : Int) < (q : Int) := by omega
            have hlk : i < ks.length := by rw [HKs.out]; exact hlt
            obtain ⟨k1, k2, hkk⟩ : ∃ k1 k2, ks[i]? = some (k1, k2) := ⟨_, _, List.getElem?_eq_getElem hlk⟩
            have hgd : ks.getD i (0, 0) = (k1, k2) := by rw [List.getD_eq_getElem?_getD, hkk]; rfl
            have hnd := noB_drop hkk
            have HNd := hide hnd
            rw [hnd] at HOl
            have hbo := bod_of _ _ _ (Nat.le_of_lt hlk) HBo.out
            have hcl := cnt_le hbo.1 hkk
            rw [HKb.out] at hcl
            have hkm := HKm.out _ (List.mem_of_getElem? hkk)
            obtain ⟨sb, b3, ε, hby⟩ : ∃ sb b3 ε, bytesS bs b2 0 (k2 : Nat) = (sb, b3, ε) := ⟨_, _, _, rfl⟩
            obtain ⟨gR, hgR⟩ : ∃ gR, Av = some ⟨gR, 0, none⟩ := by
              obtain ⟨ps, q1, _⟩ := HOl.out.ch
              obtain ⟨g', e1, _⟩ := q1.row.storeN (k := 0) (by omega)
              exact ⟨g', e1⟩
            subst hgR
            have hia : i = (cntC cs).length := by unfold cntC; rw [List.length_map]; exact HCl.out.symm
            have HIa := hide hia
            obtain ⟨f, hf⟩ : ∃ f, f = cntB (cntC cs) := ⟨_, rfl⟩
            obtain ⟨tt, htt⟩ : ∃ tt, tt = f + k1 := ⟨_, rfl⟩
            have HTt := hide htt
            have htb : tt ≤ 16384 := by omega
            obtain ⟨A1, c1, k0c, k1c, k2c, kfz, _, _, _, _⟩ := HOl.out.at hia
            rw [← hf] at k0c k1c
            rw [← htt] at k1c
            have y1 : wl.cell? ⟨w.heap.size, 0, none⟩ = some (.pointer (some ⟨gS, 0, none⟩)) := cell_of_row wl _ 0 _ _ _ HOl.out.b1
            have y3 : wl.cell? ⟨gS, 0, none⟩ = some (.slice (some ⟨gR, 0, none⟩) q cv) := cell_of_row wl _ 0 _ _ _ HOl.out.st
            obtain ⟨hco, _, _⟩ := HZl.out.put (k := i) hlt
            have hcz : wl.cell? ⟨gZ, i, none⟩ = some (.int .i64 (k2 : Nat)) := by
              rw [hco]
              unfold ints
              rw [List.map_map, List.getElem?_map, hkk]
              rfl
            have HF := hide hf
            have HKk := hide hkk
            have HGd := hide hgd
            have HBi := hide hby
            have HBy := hide (bytes_any g bs b2 0 (k2 : Nat) wl HOl.out.rd)
            rw [hby] at HBy
            have HK0 := hide k0c
            have HK1 := hide k1c
            have HK2 := hide k2c
            have HKf := hide kfz
            have HHkm := hide hkm
            clear hlk hkk hgd hnd hbo hcl hkm hby hia hf htt hco k0c k1c k2c kfz
            go_wp2_with (fail)
            refine HBy.out.mono ?_
            rintro en w20 ⟨v20, rfl, hown, hrd, hfr20⟩
            have HO20 := hide (HOl.out.read hfr20 hrd)
            obtain ⟨A20, c20, rfl, _⟩ := hown.form
            have hrg : gR ≠ g := fun e => by
              obtain ⟨ps, q1, _⟩ := HOl.out.ch
              obtain ⟨A0, c0, hh, _⟩ := HOl.out.rd
              subst e
              exact q1.row.ne_blk rfl hh (by decide)
            have r1 := hfr20.cell (p := ⟨gR, i * 3 + 2, none⟩) HK2.out hrg
            have r2 : w20.frozen? ⟨gR, i * 3 + 2, none⟩ = false := by
              obtain ⟨ps, q1, _⟩ := HOl.out.ch
              obtain ⟨_, cs', fz', hh⟩ := q1.row.cellsT (show (Value.slice (some ⟨gR, 0, none⟩) q cv).ownBlock = some gR from rfl)
              exact hfr20.froz hh hrg (HKf.out _)
            have HSb : Hid (OpS w (w20.setCell ⟨gR, i * 3 + 2, none⟩ (.slice A20 sb.length c20)) g gS bs b3 ε t (.slice (some ⟨gR, 0, none⟩) q cv) q (cntC cs ++ (k1, sb) :: noB (ks.drop (i + 1)))) := hide (by
              refine (HO20.out).setb (W0 := wl) HOl.out.ch HOl.out.fr HIa.out (fun ps q1 => ?_) hown
              obtain ⟨A0, c0, hh, _⟩ := HOl.out.rd
              exact q1.off hfr20 (off_is hh (by decide)) (off_is hh (by decide)))
            have HZ21 : Hid (Own (w20.setCell ⟨gR, i * 3 + 2, none⟩ (.slice A20 sb.length c20)) gZ 3 1 (.slice (some ⟨gZ, 0, none⟩) q q) q (ints (ks.map (·.2)))) := hide (by
              obtain ⟨A0, c0, hh, _⟩ := HOl.out.rd
              have h1 := HZl.out.off hfr20 (off_is hh (by decide))
              obtain ⟨ps, q1, _⟩ := HOl.out.ch
              obtain ⟨_, cs', fz', hh2⟩ := q1.row.cellsT (show (Value.slice (some ⟨gR, 0, none⟩) q cv).ownBlock = some gR from rfl)
              exact h1.off ((Fr.refl (Is gR) w20).put _ _) (off_is (hfr20.blk hh2 hrg) (by decide)))
            have HM21 : Hid (Marks w (w20.setCell ⟨gR, i * 3 + 2, none⟩ (.slice A20 sb.length c20)) Ds) := hide (by
              obtain ⟨A0, c0, hh, _⟩ := HOl.out.rd
              have h1 := HMk.out.off hfr20 (fun k hk e => by have e : k = g := e; subst e; rw [hh] at hk; cases hk)
              obtain ⟨ps, q1, _⟩ := HOl.out.ch
              obtain ⟨_, cs', fz', hh2⟩ := q1.row.cellsT (show (Value.slice (some ⟨gR, 0, none⟩) q cv).ownBlock = some gR from rfl)
              have hh3 := hfr20.blk hh2 hrg
              exact h1.off ((Fr.refl (Is gR) w20).put (i * 3 + 2) (.slice A20 sb.length c20)) (fun k hk e => by have e : k = gR := e; subst e; rw [hh3] at hk; cases hk))
            obtain ⟨w21, hw21⟩ : ∃ w21, w21 = w20.setCell ⟨gR, i * 3 + 2, none⟩ (.slice A20 sb.length c20) := ⟨_, rfl⟩
            rw [← hw21] at HSb HZ21 HM21
            have HW21 := hide hw21
            clear hw21
            by_cases hε : ε = 0
            · subst hε
              have HGo := hide (good_ok g bs b3 w21 HSb.out.rd)
              obtain ⟨A22, c22, k0c, k1c, k2c, _, y5, y6, kO, _⟩ := HSb.out.at HIa.out
              rw [← HF.out] at k0c k1c
              rw [← HTt.out] at k1c
              obtain ⟨sl, hsl⟩ : ∃ sl, sl = sb.length := ⟨_, rfl⟩
              have HSl := hide hsl
              rw [← hsl] at k2c y5 kO
              have HY6 := hide y6
              have HkO := hide kO.rd
              have HDo := hide (docsF_any f tt sl c22 A22 w21)
              clear hown hrd hfr20 hrg HK0 HK1 HK2 HKf hsl y6 kO
              go_wp2_with (fail)
              rw [← HW21.out]
              refine HGo.out.mono ?_
              rintro en w22 ⟨⟨r22, rfl⟩, rfl⟩
              go_wp2_with (fail)
              refine HDo.out.mono ?_
              rintro en w23 ⟨rfl, hw23⟩
              have HW23 := hide hw23
              have HFb : Hid (Fr No w22 w23) := hide (by rw [hw23]; exact (Fr.refl No w22).alloc _)
              have hbox : w23.heap[w22.heap.size]? = some (.cells #[.int .i64 (f : Nat), .int .i64 (tt : Nat), .slice A22 sl c22] 106 (0, 0)) := by rw [hw23]; exact heap_alloc_new w22 _
              clear hw23
              obtain ⟨G, hG⟩ : ∃ G, G = w22.heap.size := ⟨_, rfl⟩
              rw [← hG] at hbox
              have hGl : G ≤ w23.heap.size := by rw [hG]; exact HFb.out.size
              have hrd22 : Rd w23 G A22 (by8 sb) := by rw [hG]; exact HkO.out.fr0 HFb.out
              have HO23 := hide (HSb.out.fr0 HFb.out)
              have HZ23 := hide (HZ21.out.fr0 HFb.out)
              have HM23 := hide (HM21.out.off HFb.out (fun _ _ h => h))
              have hsl2 : sl ≤ 140737488355328 := by
                have h1 := bytes_of (bs := bs) (a := b2) (k := k2) (e := 0) (by rw [HBi.out])
                have h2 := h1.2.1
                rw [HBi.out] at h2
                have h2 : sb.length = k2 := h2
                have h3 := HHkm.out.2
                rw [HSl.out, h2]
                omega
              have HSq := hide (docs1_in (fr - 1) (by omega) G sl c22 f tt k1 A22 sb G w23 hbox HTt.out HSl.out.symm y5 HY6.out hsl2 hGl hrd22 htb)
              clear hbox hGl hrd22 hsl2 k0c k1c k2c y1 y3 hltI hcz r1 r2 HGo HDo
              go_wp2_with (fail)
              rw [← hG]
              clear hG
              refine (wpIn_wide (n := fr)).1 ?_
              refine wpIn_rangeFunc_mem (F := Fence.wide) rfl (by omega) (gf := 104) (lb := #[.pointer (some ⟨G, 0, none⟩)]) rfl trivial HEg.out HSq.out KpE.t KpE.b (fun x W l o o' h hl ho => h.putN hl ho) (Fr.refl _ _) (fun x => rfl)
                (fun _ W => OpS w W g gS bs b3 0 t (.slice (some ⟨gR, 0, none⟩) q cv) q (cntC cs ++ (k1, sb) :: noB (ks.drop (i + 1))) ∧ Own W gZ 3 1 (.slice (some ⟨gZ, 0, none⟩) q q) q (ints (ks.map (·.2))) ∧ Marks w W Ds) (fun _ _ _ => False) ?hI ?hIx ?h0
                (fun x => { tmps := #[.slice A m c, undef, .pointer (some ⟨w.heap.size, 0, none⟩), .pointer (some ⟨w.heap.size + 1, 0, none⟩), .pointer (some ⟨g, 0, none⟩), .int .i64 ((q : Nat) : Int), .int .i64 ((t : Nat) : Int), .slice (some ⟨gZ, 0, none⟩) q q, u8, u9, .int .i64 ((i : Nat) : Int), .pointer (some ⟨gR, i * 3, none⟩), undef, undef, undef, undef, undef, .func (.func 75) #[] #[.pointer (some ⟨w.heap.size, 0, none⟩), .pointer (some ⟨w.heap.size + 1, 0, none⟩)], .slice A m c, .pointer (some ⟨g, 0, none⟩), .pointer (some ⟨g, 0, none⟩), .int .i64 ((t : Nat) : Int), .agg #[.slice none 0 0, .int .i64 ((t : Nat) : Int)], .pointer (some ⟨gS, 0, none⟩), .pointer (some ⟨g, 0, none⟩), .pointer (some ⟨gS, 0, none⟩), .pointer (some ⟨gS, 0, none⟩), .pointer (some ⟨gS, 1, none⟩), .int .i64 ((t : Nat) : Int), .int .i64 ((q : Nat) : Int), .pointer (some ⟨g, 0, none⟩), r5, .int .i64 ((q : Nat) : Int), .slice (some ⟨gZ, 0, none⟩) q q, .int .i64 ((q : Nat) : Int), .int .i64 ((q : Nat) : Int), .bool false, u37, u38, u39, u40, u41, u42, u43, u44, u45, u46, u47, u48, u49, u50, u51, u52, u53, u54, u55, u56, u57, u58, u59, u60, u61, u62, u63, u64, u65, u66, u67, u68, u69, u70, u71, u72, u73, u74, u75, u76, u77, u78, u79, .pointer (some ⟨g, 0, none⟩), .int .i64 ((t : Nat) : Int), .pointer (some ⟨gS, 0, none⟩), .pointer (some ⟨gS, 0, none⟩), .pointer (some ⟨gS, 1, none⟩), .int .i64 ((t : Nat) : Int), .bool true, r16, .pointer (some ⟨gS, 0, none⟩), .pointer (some ⟨gS, 0, none⟩), .pointer (some ⟨gS, 0, none⟩), .slice (some ⟨gR, 0, none⟩) q cv, .int .i64 ((q : Nat) : Int), .int .i64 ((i : Nat) : Int), .bool true, .int .i64 ((i : Nat) : Int), .pointer (some ⟨gS, 0, none⟩), .pointer (some ⟨gS, 0, none⟩), .pointer (some ⟨gS, 0, none⟩), .slice (some ⟨gR, 0, none⟩) q cv, .int .i64 ((i : Nat) : Int), .pointer (some ⟨gR, i * 3, none⟩), .pointer (some ⟨gR, i * 3, none⟩), .pointer (some ⟨g, 0, none⟩), .slice (some ⟨gZ, 0, none⟩) q q, .int .i64 ((i : Nat) : Int), .pointer (some ⟨gZ, i, none⟩), .int .i64 ((k2 : Nat) : Int), .slice A20 sb.length c20, .pointer (some ⟨gR, i * 3, none⟩), .pointer (some ⟨gR, i * 3 + 2, none⟩), .pointer (some ⟨g, 0, none⟩), r22, .pointer (some ⟨gR, i * 3, none⟩), .pointer (some ⟨gR, i * 3, none⟩), .agg #[.int .i64 ((f : Nat) : Int), .int .i64 ((tt : Nat) : Int), .slice A22 sl c22], .func (.func 104) #[] #[.pointer (some ⟨G, 0, none⟩)], .int .i64 (x.i : Nat), .slice x.A x.d.length x.c, x119, undef, undef, undef, undef, undef, undef, undef, undef, undef, undef, undef, undef, undef, undef, undef, undef, undef, undef, undef, undef, undef, undef, undef, undef, undef, undef, undef, undef, undef, undef], defers := [] }) ?assign ?body ?done ?stop ?panic
              case hI =>
                rintro s A1' A2' ⟨z1, z2, z3⟩ f
                exact ⟨z1.loose HO23.out.rd.lt HO23.out.fr.size f, z2.off f (Loose.off (by decide)), z3.loose HM23.out.lt f⟩
              case hIx => exact fun c s A1' A2' h _ => h
              case h0 => exact ⟨HO23.out, HZ23.out, HM23.out⟩
              case assign =>
                intro l x W K hK
                gi_wp2
                simpa [encX] using hK
              case body =>
                rintro l pre x W hi _ _
                gi_wp2
                exact ⟨KeepsFrom.refl _ _, Fr.refl _ _, hi⟩
              case stop => exact fun D c pre W _ _ h _ => h.elim
              case panic =>
                rintro D pre W hD hPn ⟨z1, z2, z3⟩ hK
                have HNo := hide (no_bod HS1.out HS2.out HD2.out (fun cs' h => by
                  have h1 := bodS_bad2 HBo.out (by rw [HGd.out]; show ∀ ds, ¬ chunkOk (bytesS bs b2 0 (k2 : Nat)).1 k1 ds; rw [HBi.out]; exact hPn)
                  rw [bodS_none h1 ks.length (by rw [HKs.out]; omega)] at h
                  cases h))
                have HM3 := hide (z3.cons HM23.out hD HO23.out.fr.size hK)
                have HZ1 := hide z1
                clear hPn z1 z2 z3 hK
                go_wp2
                show LeavesInM Fence.wide fr _ _ _ _ _ _ _
                exact HZ1.out.bad (Ds := D :: Ds) rfl rfl HM3.out HNo.out
              case done =>
                rintro D xs W hD hS ⟨z1, z2, z3⟩ hK
                have HM3 := hide (z3.cons HM23.out hD HO23.out.fr.size hK)
                have hco := hS.2
                have hdl := (chunk_of hco).1
                have HBn : Hid (bodS bs ks (i + 1) b = some (cs ++ [(sb, xs.map (·.d))], b3)) := hide (by
                  have h1 := bodS_step (ds := xs.map (·.d)) HBo.out (by rw [HGd.out]; show (bytesS bs b2 0 (k2 : Nat)).2.2 = 0; rw [HBi.out]) (by rw [HGd.out]; show chunkOk (bytesS bs b2 0 (k2 : Nat)).1 k1 _; rw [HBi.out]; exact hco)
                  rw [HGd.out] at h1
                  dsimp only at h1
                  rw [HBi.out] at h1
                  exact h1)
                have HZ1 : Hid (OpS w W g gS bs b3 0 t (.slice (some ⟨gR, 0, none⟩) q cv) q (cntC (cs ++ [(sb, xs.map (·.d))]) ++ noB (ks.drop (i + 1)))) := hide (by
                  rw [cntC_snoc, List.append_assoc]
                  show OpS _ _ _ _ _ _ _ _ _ _ (cntC cs ++ ((xs.map (·.d)).length, sb) :: noB (ks.drop (i + 1)))
                  rw [hdl]
                  exact z1)
                have HZ2b := hide z2
                clear hS hco hdl z1 z2 z3 hK
                go_wp2
                refine ⟨⟨_, _, _, _, _, _, _, _, _, _, _, _, _, _, _, _, _, _, _, _, _, _, _, _, _, _, _, D :: Ds, i + 1, b3, cs ++ [(sb, xs.map (·.d))], hide (by rw [List.length_append, HCl.out]; rfl), by omega, by go_num, HBn, HZ1, HZ2b, HM3, rfl⟩, ?_⟩
                simp [intOf]
                omega
            · have HGo := hide (good_bad g bs b3 ε true w21 HSb.out.rd (.inl hε))
              have HNo := hide (no_bod HS1.out HS2.out HD2.out (fun cs' h => by
                have h1 := bodS_bad1 HBo.out (by rw [HGd.out]; show (bytesS bs b2 0 (k2 : Nat)).2.2 ≠ 0; rw [HBi.out]; exact hε)
                rw [bodS_none h1 ks.length (by rw [HKs.out]; omega)] at h
                cases h))
              clear hown hrd hfr20 hrg hε
              go_wp2_with (fail)
              rw [← HW21.out]
              refine HGo.out.mono ?_
              rintro en w22 ⟨rfl, rfl⟩
              go_wp2
              show LeavesInM Fence.wide fr _ _ _ _ _ _ _
              exact HSb.out.bad (Ds := Ds) rfl rfl HM21.out HNo.out
          · obtain rfl : i = q := by omega
            clear hlt
            have HLf := hide (left_any g bs b2 0 wl HOl.out.rd)
            have hb2l : b2 ≤ bs.length := by obtain ⟨_, _, _, _, _, h, _⟩ := HOl.out.rd; exact h
            obtain ⟨r, hr⟩ : ∃ r, r = bs.length - b2 := ⟨_, rfl⟩
            rw [← hr] at HLf
            have hrb : r = 0 ↔ b2 = bs.length := by omega
            have HRb := hide hrb
            have hdn : noB (ks.drop i) = [] := by rw [List.drop_eq_nil_of_le (by rw [HKs.out]; exact Nat.le_refl _)]; rfl
            rw [hdn, List.append_nil] at HOl
            have HBo2 : Hid (bodS bs ks ks.length b = some (cs, b2)) := hide (by rw [HKs.out]; exact HBo.out)
            clear hr hrb hb2l hdn
            by_cases hr0 : r = 0
            · subst hr0
              have hbe := HRb.out.1 rfl
              rw [hbe] at HBo2
              have HBe := hide hbe
              have HGo := hide (fun nq => good_ok g bs b2 (wl.drewN nq) (HOl.out.rd.drewN nq))
              clear hbe
              go_wp2_with (fail)
              refine HLf.out.mono ?_
              rintro en w30 ⟨rfl, nq, rfl⟩
              have HO30 := hide (HOl.out.fr0 ((Fr.refl No wl).drewN nq))
              have HM30 := hide (HMk.out.off ((Fr.refl No wl).drewN nq) (fun _ _ h => h))
              have HG30 := hide (HGo.out nq)
              generalize wl.drewN nq = w31 at HO30 HM30 HG30 ⊢
              clear HLf HGo HOl HMk HZl
              go_wp2_with (fail)
              refine HG30.out.mono ?_
              rintro en w32 ⟨⟨r32, rfl⟩, rfl⟩
              obtain ⟨w33, hw33⟩ : ∃ w33, w33 = w32.alloc (.cells #[.slice none 0 0] 57) := ⟨_, rfl⟩
              have HF33 : Hid (Fr No w32 w33) := hide (by rw [hw33]; exact (Fr.refl No w32).alloc _)
              have HA33 : Hid (w33.heap[w32.heap.size]? = some (.cells #[.slice none 0 0] 57 (0, 0))) := hide (by rw [hw33]; exact heap_alloc_new w32 _)
              have HO33 := hide (HO30.out.fr0 HF33.out)
              have HM33 := hide (HM30.out.off HF33.out (fun _ _ h => h))
              have HW33 := hide hw33
              have y1 : (w32.alloc (.cells #[.slice none 0 0] 57)).cell? ⟨w.heap.size, 0, none⟩ = some (.pointer (some ⟨gS, 0, none⟩)) := by rw [← hw33]; exact cell_of_row w33 _ 0 _ _ _ HO33.out.b1
              have y3 : (w32.alloc (.cells #[.slice none 0 0] 57)).cell? ⟨gS, 0, none⟩ = some (.slice Av i cv) := by rw [← hw33]; exact cell_of_row w33 _ 0 _ _ _ HO33.out.st
              have HgAb : Hid (w.heap.size ≤ w32.heap.size) := hide HO30.out.fr.size
              clear hw33 HG30 HM30
              go_wp2_with (fail)
              rw [← HW33.out]
              obtain ⟨gA, hgA⟩ : ∃ gA, gA = w32.heap.size := ⟨_, rfl⟩
              rw [← hgA] at HA33 HgAb ⊢
              clear hgA y1 y3 HO30 HW33 HF33
              have HDl : Hid ((docsC cs).length = t) := hide (by
                obtain ⟨q1, _⟩ := bod_of _ _ _ (Nat.le_refl _) HBo2.out
                rw [List.take_length] at q1
                rw [docsC_len, cntC_kC, q1]
                exact HKb.out)
              refine wp_loop (fun a' W' => ∃ (y14 y130 y131 y132 y133 y134 y135 y142 : Value) (Ds : List Nat) (j : Nat), j ≤ i ∧ y130 = .int .i64 (j : Nat) ∧ Hid (OpS w W' g gS bs b2 0 t (.slice Av i cv) i (cntC cs)) ∧ Hid (AllD W' w.heap.size gA (docsC (cs.take j))) ∧ Hid (Marks w W' Ds) ∧ a' = { tmps := #[.slice A m c, undef, .pointer (some ⟨w.heap.size, 0, none⟩), .pointer (some ⟨w.heap.size + 1, 0, none⟩), .pointer (some ⟨g, 0, none⟩), .int .i64 ((i : Nat) : Int), .int .i64 ((t : Nat) : Int), .slice (some ⟨gZ, 0, none⟩) i i, u8, u9, x10, x11, .pointer (some ⟨gA, 0, none⟩), undef, y14, undef, undef, .func (.func 75) #[] #[.pointer (some ⟨w.heap.size, 0, none⟩), .pointer (some ⟨w.heap.size + 1, 0, none⟩)], .slice A m c, .pointer (some ⟨g, 0, none⟩), .pointer (some ⟨g, 0, none⟩), .int .i64 ((t : Nat) : Int), .agg #[.slice none 0 0, .int .i64 ((t : Nat) : Int)], .pointer (some ⟨gS, 0, none⟩), .pointer (some ⟨g, 0, none⟩), .pointer (some ⟨gS, 0, none⟩), .pointer (some ⟨gS, 0, none⟩), .pointer (some ⟨gS, 1, none⟩), .int .i64 ((t : Nat) : Int), .int .i64 ((i : Nat) : Int), .pointer (some ⟨g, 0, none⟩), r5, .int .i64 ((i : Nat) : Int), .slice (some ⟨gZ, 0, none⟩) i i, .int .i64 ((i : Nat) : Int), .int .i64 ((i : Nat) : Int), .bool false, u37, u38, u39, u40, u41, u42, u43, u44, u45, u46, u47, u48, u49, u50, u51, u52, u53, u54, u55, u56, u57, u58, u59, u60, u61, u62, u63, u64, u65, u66, u67, u68, u69, u70, u71, u72, u73, u74, u75, u76, u77, u78, u79, .pointer (some ⟨g, 0, none⟩), .int .i64 ((t : Nat) : Int), .pointer (some ⟨gS, 0, none⟩), .pointer (some ⟨gS, 0, none⟩), .pointer (some ⟨gS, 1, none⟩), .int .i64 ((t : Nat) : Int), .bool true, r16, .pointer (some ⟨gS, 0, none⟩), .pointer (some ⟨gS, 0, none⟩), .pointer (some ⟨gS, 0, none⟩), .slice Av i cv, .int .i64 ((i : Nat) : Int), .int .i64 ((i : Nat) : Int), .bool false, x95, x96, x97, x98, x99, x100, x101, x102, x103, x104, x105, x106, x107, x108, x109, x110, x111, x112, x113, x114, x115, x116, undef, undef, x119, .pointer (some ⟨g, 0, none⟩), .pointer (some ⟨g, 0, none⟩), .int .i64 0, .bool true, r32, .pointer (some ⟨gS, 0, none⟩), .pointer (some ⟨gS, 0, none⟩), .pointer (some ⟨gS, 0, none⟩), .slice Av i cv, .int .i64 ((i : Nat) : Int), y130, y131, y132, y133, y134, y135, undef, undef, undef, undef, undef, undef, y142, undef, undef, undef, undef, undef, undef, undef], defers := Ds.map mkD ++ [clD w.heap.size (w.heap.size + 1)] }) (fun a' _ => i - (intOf (a'.tmps.getD 130 undef)).toNat) ?_ ?_
              · exact ⟨undef, .int .i64 0, undef, undef, undef, undef, undef, undef, Ds, 0, by omega, rfl, HO33, hide ⟨⟨_, [], HA33.out, HgAb.out, rfl, OwnD.nil _ _⟩⟩, HM33, rfl⟩
              rintro _ wo3 ⟨y14, y130, y131, y132, y133, y134, y135, y142, Ds, j, hji, rfl, HO, HAl, HMk, rfl⟩
              clear HO33 HM33 HA33
              by_cases hlt : j < i
              · have hltI : (j : Int) < (i : Int) := by omega
                obtain ⟨⟨sb, ds⟩, hcj⟩ : ∃ cc, cs[j]? = some cc := ⟨_, List.getElem?_eq_getElem (by rw [HCl.out]; exact hlt)⟩
                have hbo := bod_of _ _ _ (Nat.le_refl _) HBo2.out
                rw [List.take_length] at hbo
                have hok := hbo.2.1 _ (List.mem_of_getElem? hcj)
                have hok : chunkOk sb ds.length ds := hok
                have hcs := cntC_split hcj
                obtain ⟨k1, hk1⟩ : ∃ k1, k1 = ds.length := ⟨_, rfl⟩
                rw [← hk1] at hok
                have hcs : cntC cs = cntC (cs.take j) ++ (k1, sb) :: cntC (cs.drop (j + 1)) := by rw [hk1]; exact hcs
                have HCs := hide hcs
                have hOj := HO.out
                rw [hcs] at hOj
                obtain ⟨gR, hgR⟩ : ∃ gR, Av = some ⟨gR, 0, none⟩ := by
                  obtain ⟨ps, q1, _⟩ := HO.out.ch
                  obtain ⟨g', e1, _⟩ := q1.row.storeN (k := 0) (by omega)
                  exact ⟨g', e1⟩
                subst hgR
                have hia : j = (cntC (cs.take j)).length := by unfold cntC; rw [List.length_map, List.length_take, HCl.out]; omega
                obtain ⟨A22, c22, k0c, k1c, k2c, _, y5, y6, kO, _⟩ := hOj.at hia
                obtain ⟨f, hf⟩ : ∃ f, f = cntB (cntC (cs.take j)) := ⟨_, rfl⟩
                obtain ⟨tt, htt⟩ : ∃ tt, tt = f + k1 := ⟨_, rfl⟩
                obtain ⟨sl, hsl⟩ : ∃ sl, sl = sb.length := ⟨_, rfl⟩
                rw [← hf] at k0c k1c
                rw [← htt] at k1c
                rw [← hsl] at k2c y5 kO
                have HTt := hide htt
                have HSl := hide hsl
                have HFl : Hid ((docsC (cs.take j)).length = f) := hide (by rw [docsC_len, hf])
                have htb : tt ≤ 16384 := by
                  have h1 : (docsC cs).length = _ := docsC_len cs
                  rw [HDl.out, hcs] at h1
                  have h2 : cntB (cntC (cs.take j) ++ (k1, sb) :: cntC (cs.drop (j + 1))) = cntB (cntC (cs.take j)) + (k1 + cntB (cntC (cs.drop (j + 1)))) := by simp [cntB]
                  omega
                have hsl2 : sl ≤ 140737488355328 := by
                  have h1 := body_mem_le (List.mem_of_getElem? hcj)
                  have h2 := hbo.2.2.2
                  have h1 : sb.length ≤ _ := h1
                  have h3 := HL.out
                  omega
                have HOk := hide hok
                have HTk : Hid (docsC (cs.take (j + 1)) = docsC (cs.take j) ++ ds) := hide (by rw [take_some hcj, docsC_snoc])
                have HDk := hide hk1
                have HrdC := hide kO.rd
                have HY6 := hide y6
                obtain ⟨wE, hwE⟩ : ∃ wE, wE = wo3.alloc (.cells #[.int .i64 (f : Nat), .int .i64 (tt : Nat), .slice A22 sl c22] 106) := ⟨_, rfl⟩
                have HFe : Hid (Fr No wo3 wE) := hide (by rw [hwE]; exact (Fr.refl No wo3).alloc _)
                have hrE := heap_alloc_new wo3 (.cells #[.int .i64 (f : Nat), .int .i64 (tt : Nat), .slice A22 sl c22] 106)
                rw [← hwE] at hrE
                obtain ⟨E1, hE1⟩ : ∃ E1, E1 = wo3.heap.size := ⟨_, rfl⟩
                rw [← hE1] at hrE
                have HDo := hide (docsF_any f tt sl c22 A22 wE)
                have HWE := hide hwE
                have HE1 := hide hE1
                have z0 : wE.cell? ⟨E1, 0, none⟩ = some (.int .i64 (f : Nat)) := cell_of_row _ _ 0 _ _ _ hrE
                have z1 : wE.cell? ⟨E1, 1, none⟩ = some (.int .i64 (tt : Nat)) := cell_of_row _ _ 1 _ _ _ hrE
                have z2 : wE.cell? ⟨E1, 2, none⟩ = some (.slice A22 sl c22) := cell_of_row _ _ 2 _ _ _ hrE
                clear hok hcs hia hf htt hsl hk1 hbo kO y6 hOj hwE hE1 hrE hcj
                go_wp2_with (fail)
                rw [← HWE.out, ← HE1.out]
                refine HDo.out.mono ?_
                rintro en w23 ⟨rfl, hw23⟩
                have HFb : Hid (Fr No wE w23) := hide (by rw [hw23]; exact (Fr.refl No wE).alloc _)
                have hbox : w23.heap[wE.heap.size]? = some (.cells #[.int .i64 (f : Nat), .int .i64 (tt : Nat), .slice A22 sl c22] 106 (0, 0)) := by rw [hw23]; exact heap_alloc_new wE _
                clear hw23
                obtain ⟨G, hG⟩ : ∃ G, G = wE.heap.size := ⟨_, rfl⟩
                rw [← hG] at hbox
                have hGl : G ≤ w23.heap.size := by rw [hG]; exact HFb.out.size
                have hrd22 : Rd w23 G A22 (by8 sb) := by rw [hG]; exact ((HrdC.out.fr0 HFe.out).more HFe.out.size).fr0 HFb.out
                have HO23 := hide ((HO.out.fr0 HFe.out).fr0 HFb.out)
                have HA23 := hide ((HAl.out.fr0 HFe.out).fr0 HFb.out)
                have HM23 := hide ((HMk.out.off HFe.out (fun _ _ h => h)).off HFb.out (fun _ _ h => h))
                have HSq := hide (docs1_in (fr - 1) (by omega) G sl c22 f tt k1 A22 sb G w23 hbox HTt.out HSl.out.symm y5 HY6.out hsl2 hGl hrd22 htb)
                clear hbox hGl hrd22 hsl2 k0c k1c k2c hltI HDo z0 z1 z2
                go_wp2_with (fail)
                rw [← hG]
                clear hG
                refine (wpIn_wide (n := fr)).1 ?_
                refine wpIn_rangeFunc_mem (F := Fence.wide) rfl (by omega) (gf := 104) (lb := #[.pointer (some ⟨G, 0, none⟩)]) rfl trivial HEg.out HSq.out KpE.t KpE.b (fun x W l o o' h hl ho => h.putN hl ho) (Fr.refl _ _) (fun x => rfl)
                  (fun pre W => OpS w W g gS bs b2 0 t (.slice (some ⟨gR, 0, none⟩) i cv) i (cntC cs) ∧ AllD W w.heap.size gA (docsC (cs.take j) ++ pre.map (·.d)) ∧ Marks w W Ds) (fun _ _ _ => False) ?hI ?hIx ?h0
                  (fun x => { tmps := #[.slice A m c, undef, .pointer (some ⟨w.heap.size, 0, none⟩), .pointer (some ⟨w.heap.size + 1, 0, none⟩), .pointer (some ⟨g, 0, none⟩), .int .i64 ((i : Nat) : Int), .int .i64 ((t : Nat) : Int), .slice (some ⟨gZ, 0, none⟩) i i, u8, u9, x10, x11, .pointer (some ⟨gA, 0, none⟩), undef, .pointer (some ⟨E1, 0, none⟩), undef, .slice x.A x.d.length x.c, .func (.func 75) #[] #[.pointer (some ⟨w.heap.size, 0, none⟩), .pointer (some ⟨w.heap.size + 1, 0, none⟩)], .slice A m c, .pointer (some ⟨g, 0, none⟩), .pointer (some ⟨g, 0, none⟩), .int .i64 ((t : Nat) : Int), .agg #[.slice none 0 0, .int .i64 ((t : Nat) : Int)], .pointer (some ⟨gS, 0, none⟩), .pointer (some ⟨g, 0, none⟩), .pointer (some ⟨gS, 0, none⟩), .pointer (some ⟨gS, 0, none⟩), .pointer (some ⟨gS, 1, none⟩), .int .i64 ((t : Nat) : Int), .int .i64 ((i : Nat) : Int), .pointer (some ⟨g, 0, none⟩), r5, .int .i64 ((i : Nat) : Int), .slice (some ⟨gZ, 0, none⟩) i i, .int .i64 ((i : Nat) : Int), .int .i64 ((i : Nat) : Int), .bool false, u37, u38, u39, u40, u41, u42, u43, u44, u45, u46, u47, u48, u49, u50, u51, u52, u53, u54, u55, u56, u57, u58, u59, u60, u61, u62, u63, u64, u65, u66, u67, u68, u69, u70, u71, u72, u73, u74, u75, u76, u77, u78, u79, .pointer (some ⟨g, 0, none⟩), .int .i64 ((t : Nat) : Int), .pointer (some ⟨gS, 0, none⟩), .pointer (some ⟨gS, 0, none⟩), .pointer (some ⟨gS, 1, none⟩), .int .i64 ((t : Nat) : Int), .bool true, r16, .pointer (some ⟨gS, 0, none⟩), .pointer (some ⟨gS, 0, none⟩), .pointer (some ⟨gS, 0, none⟩), .slice (some ⟨gR, 0, none⟩) i cv, .int .i64 ((i : Nat) : Int), .int .i64 ((i : Nat) : Int), .bool false, x95, x96, x97, x98, x99, x100, x101, x102, x103, x104, x105, x106, x107, x108, x109, x110, x111, x112, x113, x114, x115, x116, undef, undef, x119, .pointer (some ⟨g, 0, none⟩), .pointer (some ⟨g, 0, none⟩), .int .i64 0, .bool true, r32, .pointer (some ⟨gS, 0, none⟩), .pointer (some ⟨gS, 0, none⟩), .pointer (some ⟨gS, 0, none⟩), .slice (some ⟨gR, 0, none⟩) i cv, .int .i64 ((i : Nat) : Int), .int .i64 ((j : Nat) : Int), .bool true, .pointer (some ⟨gR, j * 3, none⟩), .agg #[.int .i64 ((f : Nat) : Int), .int .i64 ((tt : Nat) : Int), .slice A22 sl c22], .agg #[.int .i64 ((f : Nat) : Int), .int .i64 ((tt : Nat) : Int), .slice A22 sl c22], .func (.func 104) #[] #[.pointer (some ⟨G, 0, none⟩)], .int .i64 (x.i : Nat), .slice x.A x.d.length x.c, undef, undef, undef, undef, y142, undef, undef, undef, undef, undef, undef, undef], defers := [] }) ?assign ?body ?done ?stop ?panic
                case hI =>
                  rintro s A1' A2' ⟨z1, z2, z3⟩ f
                  exact ⟨z1.loose HO23.out.rd.lt HO23.out.fr.size f, z2.loose f, z3.loose HM23.out.lt f⟩
                case hIx => exact fun c s A1' A2' h _ => h
                case h0 => exact ⟨HO23.out, by simpa using HA23.out, HM23.out⟩
                case assign =>
                  intro l x W K hK
                  gi_wp2
                  simpa [encX] using hK
                case body =>
                  rintro l pre x W ⟨z1, z2, z3⟩ hgx hpl
                  obtain ⟨iD, hiD, hzD, hsD, hbD⟩ := info_parts info_doc2
                  obtain ⟨vA, ps, e1, e2, e3, e4⟩ := z2.ex
                  obtain ⟨AA, nA, cA, rfl⟩ : ∃ AA nA cA, vA = .slice AA nA cA := by obtain ⟨AA, cA, h, _⟩ := e4.row.form; exact ⟨_, _, _, h⟩
                  obtain ⟨n1, hn1⟩ : ∃ n1, n1 = ps.length := ⟨_, rfl⟩
                  have hpn : n1 ≤ 16384 := by
                    have h1 := congrArg List.length e3
                    rw [List.length_map, List.length_append, HFl.out, List.length_map] at h1
                    have h2 := HTt.out
                    omega
                  have HOp := hide z1
                  have HMs := hide z3
                  have HE1' := hide e1
                  have HE3 := hide e3
                  have HE4 := hide e4
                  have HGx := hide hgx
                  have HN1 := hide hn1
                  have u1 : W.cell? ⟨gA, 0, none⟩ = some (.slice AA nA cA) := cell_of_row _ _ 0 _ _ _ e1
                  have u2 : (W.alloc (.cells #[.slice x.A x.d.length x.c] 71)).cell? ⟨gA, 0, none⟩ = some (.slice AA nA cA) := ((Fr.refl No W).alloc _).cell u1 (fun h => h)
                  have hrow := (e4.row.fr0 ((Fr.refl No W).alloc (.cells #[.slice x.A x.d.length x.c] 71)))
                  rw [← hn1] at hrow
                  have HRw := hide hrow
                  have HS5 := hide (Src.one (P := Try.prog) W (e := 71) Try.underlying57 (.slice x.A x.d.length x.c) rfl)
                  have b1' : (n1 + 1) * 24 ≤ 140737488355328 := by omega
                  have b2' : n1 + 1 ≤ maxLen := by unfold maxLen; omega
                  have b3' : w.heap.size ≤ (W.alloc (.cells #[.slice x.A x.d.length x.c] 71)).heap.size := by
                    have h1 := z1.fr.size
                    simp
                    omega
                  clear z1 z2 z3 e1 e3 e4 hgx hn1 hrow hpl
                  gi_wp2_with (gi_at_builtin; refine wpListIn_append_gen _ rfl (.tmp 138) (.tmp 140) 57 57 rfl w.heap.size 71 iD _ 1 24 Try.underlying57 hiD hzD hsD hbD rfl (.slice AA nA cA) n1 (ps.map dVal) rfl HRw.out _ 1 [.slice x.A x.d.length x.c] rfl HS5.out b1' b2' b3' ?_; intro v6 w6 hown hfr6 hat; obtain ⟨A6, c6, rfl, _⟩ := hown.form; have HO6 := hide hown; have HF6 := hide hfr6; have s0 : ¬ (Value.slice AA nA cA).ownBlock = some gA := (fun e => HRw.out.ne_blk e (((Fr.refl No W).alloc _).blk HE1'.out (fun h => h)) (by decide)); have hb6 := hfr6.blk (((Fr.refl No W).alloc (.cells #[.slice x.A x.d.length x.c] 71)).blk HE1'.out (fun h => h)) s0; have HB6 := hide hb6; have s1 : w6.cell? ⟨gA, 0, none⟩ = some (.slice AA nA cA) := cell_of_row _ _ 0 _ _ _ hb6; have s2 : w6.frozen? ⟨gA, 0, none⟩ = false := frozen_of_row _ _ _ _ _ hb6; clear hown hfr6 hat s0 hb6)
                  have HFW : Fr (DocS (.slice AA nA cA) gA) W (w6.setCell ⟨gA, 0, none⟩ (.slice A6 (n1 + 1) c6)) :=
                    ((((Fr.refl (DocS (.slice AA nA cA) gA) W).alloc (.cells #[.slice x.A x.d.length x.c] 71)).own HF6.out (fun k hk => .inr (.inl hk)))).setCell (p := ⟨gA, 0, none⟩) (fun _ => .inr rfl) _
                  have hwa : ∀ i', i' < w.heap.size → ¬ DocS (.slice AA nA cA) gA i' := fun i' hi' hd => by
                    rcases hd with e | e
                    · have := (HE4.out.row.lt i' e).1; omega
                    · omega
                  have hOff : ∀ T, T ≠ 57 → T ≠ 71 → Off (DocS (.slice AA nA cA) gA) W T := fun T h1 h2 => DocS.off HE4.out HE1'.out h1 h2
                  refine ⟨DocS.keep HE4.out HE1'.out HFW _, DocS.kp HE4.out HE1'.out HFW, HOp.out.off HFW ⟨hOff _ (by decide) (by decide), hOff _ (by decide) (by decide), hOff _ (by decide) (by decide), hOff _ (by decide) (by decide), hOff _ (by decide) (by decide), hOff _ (by decide) (by decide)⟩ hwa, ?_, ?_⟩
                  · refine ⟨⟨_, ps ++ [(x.d, x.A, x.c)], box_put HB6.out, e2, ?_, ?_⟩⟩
                    · rw [List.map_append, List.map_append, HE3.out, List.append_assoc]
                      rfl
                    · have f7 : Fr (Is gA) w6 (w6.setCell ⟨gA, 0, none⟩ (.slice A6 (n1 + 1) c6)) := (Fr.refl (Is gA) w6).put 0 _
                      have o7 : ∀ T, T ≠ 57 → Off (Is gA) w6 T := fun T hT => off_is HB6.out hT
                      have h6 : OwnD w6 w.heap.size (.slice A6 (n1 + 1) c6) (ps ++ [(x.d, x.A, x.c)]) := by
                        refine (HE4.out.fr0 ((Fr.refl No W).alloc (.cells #[.slice x.A x.d.length x.c] 71))).snoc (p := (x.d, x.A, x.c)) ((HGx.out.lower (HO23.out.fr.size)).fr0 ((Fr.refl No W).alloc _)) HF6.out ?_
                        rw [← HN1.out]
                        exact HO6.out
                      exact h6.off f7 (o7 _ (by decide)) (o7 _ (by decide)) (o7 _ (by decide))
                  · refine HMs.out.off HFW (fun k hk hd => ?_)
                    rcases hd with e | e
                    · obtain ⟨_, cs', fz', hh⟩ := HE4.out.row.cellsT e
                      rw [hh] at hk
                      cases hk
                    · subst e
                      rw [HE1'.out] at hk
                      cases hk
                case stop => exact fun D c pre W _ _ h _ => h.elim
                case panic => exact fun D pre W _ hPn _ _ => absurd HOk.out (hPn ds)
                case done =>
                  rintro D xs W hD hS ⟨z1, z2, z3⟩ hK
                  have HM3 := hide (z3.cons HM23.out hD HO23.out.fr.size hK)
                  have hxs := chunk_uniq hS.2 HOk.out
                  rw [hxs, ← HTk.out] at z2
                  have HZ1 := hide z1
                  have HZ2 := hide z2
                  clear hS hxs z1 z2 z3 hK
                  go_wp2
                  refine ⟨⟨_, _, _, _, _, _, _, _, D :: Ds, j + 1, by omega, by go_num, HZ1, HZ2, HM3, rfl⟩, ?_⟩
                  simp [intOf]
                  omega
              · obtain rfl : j = i := by omega
                clear hlt
                have htk : cs.take j = cs := List.take_of_length_le (by rw [HCl.out]; exact Nat.le_refl _)
                rw [htk] at HAl
                obtain ⟨vA, ps, e1, e2, e3, e4⟩ := HAl.out.ex
                obtain ⟨AA, cA, hvA, q1, q2, _⟩ := e4.row.form
                obtain ⟨nA, hnA⟩ : ∃ nA, nA = ps.length := ⟨_, rfl⟩
                rw [← hnA] at hvA q1
                subst hvA
                have u1 : wo3.cell? ⟨gA, 0, none⟩ = some (.slice AA nA cA) := cell_of_row _ _ 0 _ _ _ e1
                have HBu := hide (build_any AA nA cA wo3.heap.size (docsC cs) wo3 (by rw [← e3, List.length_map]; exact hnA.symm) q1 q2 (Nat.le_refl _) (by rw [← e3]; exact e4.rd))
                clear htk e1 e2 e3 e4 q1 q2 hnA
                go_wp2_with (fail)
                refine HBu.out.mono ?_
                rintro en w40 ⟨v40, rfl, hown, hfr40⟩
                obtain ⟨nb, hnb⟩ : ∃ nb, nb = (buildB (docsC cs)).length := ⟨_, rfl⟩
                rw [← hnb] at hown
                obtain ⟨A40, c40, rfl, x1, x2, _, hrd40, _⟩ := hown.form
                have HEq := hide (sleq_any A40 A nb c40 m c _ _ (buildB (docsC cs)) bs w40 hnb.symm HL.out x1 x2 HM.out HC.out hrd40 ((HR.out.fr0 HO.out.fr).fr0 hfr40))
                have HO40 := hide (HO.out.fr0 hfr40)
                have HM40 := hide (HMk.out.off hfr40 (fun _ _ h => h))
                clear hown hfr40 hrd40 x1 x2 hnb u1 HO HAl HMk HBu
                by_cases hfm : buildB (docsC cs) = bs
                · rw [decide_eq_true hfm] at HEq
                  have HOk2 := hide (yes_open HS1.out HS2.out rfl HD2.out HBo2.out hfm)
                  clear hfm
                  go_wp2_with (fail)
                  refine HEq.out.mono ?_
                  rintro en w41 ⟨rfl, nq2, rfl⟩
                  have HO41 := hide (HO40.out.fr0 ((Fr.refl No w40).drewN nq2))
                  have HM41 := hide (HM40.out.off ((Fr.refl No w40).drewN nq2) (fun _ _ h => h))
                  generalize w40.drewN nq2 = w42 at HO41 HM41 ⊢
                  have HGo := hide (good_ok g bs b2 w42 HO41.out.rd)
                  clear HO40 HM40 HEq
                  go_wp2_with (fail)
                  refine HGo.out.mono ?_
                  rintro en w43 ⟨⟨r43, rfl⟩, rfl⟩
                  have k1 := HO41.out.b1
                  have k2 := HO41.out.b2
                  have f1 : Fr (Is w.heap.size) w43 (w43.setCell ⟨w.heap.size, 0, none⟩ (.pointer (some ⟨gS, 0, none⟩))) := (Fr.refl (Is w.heap.size) w43).put 0 _
                  have k3 := f1.blk k2 (fun e => by have e : w.heap.size + 1 = w.heap.size := e; omega)
                  have f2 : Fr (Is (w.heap.size + 1)) (w43.setCell ⟨w.heap.size, 0, none⟩ (.pointer (some ⟨gS, 0, none⟩))) ((w43.setCell ⟨w.heap.size, 0, none⟩ (.pointer (some ⟨gS, 0, none⟩))).setCell ⟨w.heap.size + 1, 0, none⟩ (.int .i64 0)) := (Fr.refl (Is (w.heap.size + 1)) _).put 0 _
                  have k4 : (w43.setCell ⟨w.heap.size, 0, none⟩ (.pointer (some ⟨gS, 0, none⟩))).heap[w.heap.size]? = some (.cells #[.pointer (some ⟨gS, 0, none⟩)] 62 (0, 0)) := box_put k1
                  have HK4 := hide (f2.blk k4 (fun e => by have e : w.heap.size = w.heap.size + 1 := e; omega))
                  have HK5 := hide (box_put (u := .int .i64 0) k3)
                  have HFF : Hid (Fr No w ((w43.setCell ⟨w.heap.size, 0, none⟩ (.pointer (some ⟨gS, 0, none⟩))).setCell ⟨w.heap.size + 1, 0, none⟩ (.int .i64 0))) := hide ((HO41.out.fr.trans f1 (fun i hi e => by have e : i = w.heap.size := e; omega)).trans f2 (fun i hi e => by have e : i = w.heap.size + 1 := e; omega))
                  have HMF := hide ((HM41.out.off f1 (fun k hk e => by have e : k = w.heap.size := e; subst e; rw [k1] at hk; cases hk)).off f2 (fun k hk e => by have e : k = w.heap.size + 1 := e; subst e; rw [k3] at hk; cases hk))
                  have HST : Hid (StoM ((w43.setCell ⟨w.heap.size, 0, none⟩ (.pointer (some ⟨gS, 0, none⟩))).setCell ⟨w.heap.size + 1, 0, none⟩ (.int .i64 0)) w.heap.size gS cs) := hide (by
                    have hs0 : StoM w43 w.heap.size gS cs := by
                      obtain ⟨ps2, z1, z2⟩ := HO41.out.ch
                      obtain ⟨_, z3, _⟩ := bod_of _ _ _ (Nat.le_refl _) HBo2.out
                      exact ⟨_, _, _, ps2, HO41.out.st, by have := HO41.out.hS; omega, z1, z2, HDl.out.symm, hN, z3⟩
                    exact (hs0.off f1 (off_is k1 (by decide)) (off_is k1 (by decide)) (off_is k1 (by decide))).off f2 (off_is k3 (by decide)) (off_is k3 (by decide)) (off_is k3 (by decide)))
                  have y1 : w43.cell? ⟨w.heap.size, 0, none⟩ = some (.pointer (some ⟨gS, 0, none⟩)) := cell_of_row _ _ 0 _ _ _ k1
                  have y2 : w43.frozen? ⟨w.heap.size, 0, none⟩ = false := frozen_of_row _ _ _ _ _ k1
                  have y3 : (w43.setCell ⟨w.heap.size, 0, none⟩ (.pointer (some ⟨gS, 0, none⟩))).cell? ⟨w.heap.size + 1, 0, none⟩ = some (.int .i64 0) := cell_of_row _ _ 0 _ _ _ k3
                  have y4 : (w43.setCell ⟨w.heap.size, 0, none⟩ (.pointer (some ⟨gS, 0, none⟩))).frozen? ⟨w.heap.size + 1, 0, none⟩ = false := frozen_of_row _ _ _ _ _ k3
                  clear k1 k2 k3 k4 f1 f2 HGo
                  go_wp2
                  show LeavesInM Fence.wide fr _ _ _ _ _ _ _
                  exact leave_ok (Ds := Ds) rfl rfl (Nat.le_refl _) (by omega) HK4.out HK5.out HFF.out HMF.out HOk2.out HST.out
                · rw [decide_eq_false hfm] at HEq
                  have HNo := hide (no_form HS1.out HS2.out HD2.out HBo2.out hfm)
                  clear hfm
                  go_wp2_with (fail)
                  refine HEq.out.mono ?_
                  rintro en w41 ⟨rfl, nq2, rfl⟩
                  have HO41 := hide (HO40.out.fr0 ((Fr.refl No w40).drewN nq2))
                  have HM41 := hide (HM40.out.off ((Fr.refl No w40).drewN nq2) (fun _ _ h => h))
                  generalize w40.drewN nq2 = w42 at HO41 HM41 ⊢
                  have HGo := hide (good_bad g bs b2 0 false w42 HO41.out.rd (.inr rfl))
                  clear HO40 HM40 HEq
                  go_wp2_with (fail)
                  refine HGo.out.mono ?_
                  rintro en w43 ⟨rfl, rfl⟩
                  go_wp2
                  show LeavesInM Fence.wide fr _ _ _ _ _ _ _
                  exact HO41.out.bad (Ds := Ds) rfl rfl HM41.out HNo.out
            · have hrB : ((r : Int) == 0) = false := by simpa using hr0
              have HGo := hide (fun nq => good_bad g bs b2 0 ((r : Int) == 0) (wl.drewN nq) (HOl.out.rd.drewN nq) (.inr hrB))
              have HNo := hide (no_bod HS1.out HS2.out HD2.out (fun cs' h => by
                rw [HBo2.out] at h
                injection h with h
                injection h with _ h
                exact hr0 (HRb.out.2 h)))
              clear hrB hr0
              go_wp2_with (fail)
              refine HLf.out.mono ?_
              rintro en w30 ⟨rfl, nq, rfl⟩
              have HO30 := hide (HOl.out.fr0 ((Fr.refl No wl).drewN nq))
              have HM30 := hide (HMk.out.off ((Fr.refl No wl).drewN nq) (fun _ _ h => h))
              have HG30 := hide (HGo.out nq)
              generalize wl.drewN nq = w31 at HO30 HM30 HG30 ⊢
              clear HLf HGo HOl HMk HZl
              go_wp2_with (fail)
              refine HG30.out.mono ?_
              rintro en w32 ⟨rfl, rfl⟩
              go_wp2
              show LeavesInM Fence.wide fr _ _ _ _ _ _ _
              exact HO30.out.bad (Ds := Ds) rfl rfl HM30.out HNo.out
        · have hb0 : ((t : Int) == (N : Int)) = false := by simpa using (show ¬ (t : Int) = (N : Int) by omega)
          have HGo := hide (good_bad g bs b 0 ((t : Int) == (N : Int)) wo HO.out.rd (.inr hb0))
          have HNo := hide (no_tab HS1.out HS2.out (fun ks' a' h => by
            rw [HL.out, HD.out] at h
            injection h with h
            injection h with _ h
            injection h with _ h
            exact htN2 h))
          clear hb0 htN2
          go_wp2_with (fail)
          refine HGo.out.mono ?_
          rintro en w16 ⟨rfl, rfl⟩
          go_wp2
          exact HO.out.bad (Ds := []) rfl rfl (Marks.nil _ _) HNo.out
  · have HGo := hide (good_bad g bs a2 e2 true w4 HO4.out.rd (.inl he2))
    have HNo := hide (no_head HS1.out HS2.out he2)
    clear he2
    go_wp2_with (fail)
    refine HGo.out.mono ?_
    rintro en w5 ⟨rfl, rfl⟩
    exact HO4.out.bad (Ds := []) rfl rfl (Marks.nil _ _) HNo.out
end Go.Proofs.Ytpnhnnhocekchaa
