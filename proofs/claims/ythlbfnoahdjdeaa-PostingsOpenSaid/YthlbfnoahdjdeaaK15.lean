/- Several texts in one: PoPoM, SlEq, Marks, PoBw. -/
import Derived.Test.YthlbfnoahdjdeaaK14
import Derived.BigQuiet
import Derived.Deep.CutBlock
namespace Go.Proofs.Ythlbfnoahdjdeaa
set_option linter.unusedVariables false
set_option linter.unusedSimpArgs false
open Go.RowKit

theorem bkFlat_at : ∀ {l : List BkL} {k : Nat} {p : BkL}, l[k]? = some p → ∀ i v, (bRow p)[i]? = some v → (bkFlat l)[k * 4 + i]? = some v
  | [], k, p, h, _, _, _ => by simp at h
  | q :: r, 0, p, h, i, v, hv => by
    simp at h
    subst h
    have e : bkFlat (q :: r) = bRow q ++ bkFlat r := rfl
    have hi := (List.getElem?_eq_some_iff.1 hv).1
    rw [e, Nat.zero_mul, Nat.zero_add, List.getElem?_append_left hi]
    exact hv
  | q :: r, k + 1, p, h, i, v, hv => by
    have h2 := bkFlat_at (l := r) (k := k) (p := p) (by simpa using h) i v hv
    have e : bkFlat (q :: r) = bRow q ++ bkFlat r := rfl
    rw [e, show (k + 1) * 4 + i = (bRow q).length + (k * 4 + i) by simp [bRow]; omega, List.getElem?_append_right (by omega), Nat.add_sub_cancel_left]
    exact h2
theorem add_litB (ad : Addr) (k i : Nat) (hi : i ≠ 0) : (⟨(ad.add (k * 4)).block, (ad.add (k * 4)).off + i, none⟩ : Addr) = ad.add (k * 4 + i) := by
  rw [← lit_add ad (k * 4) i hi]
  unfold Addr.add
  split <;> split <;> simp_all <;> omega
theorem BksM.at {w : World} {base c : Nat} {A : Option Addr} {bs : List BkL} (h : BksM w base (.slice A bs.length c) bs) {k : Nat} {p : BkL} (hp : bs[k]? = some p) :
    ∃ ad : Addr, A = some ad ∧ w.cell? (ad.add (k * 4)) = some (.slice p.2.1 p.1.1.length p.2.2) ∧ w.cell? ⟨(ad.add (k * 4)).block, (ad.add (k * 4)).off + 1, none⟩ = some (.int .i64 p.1.2.1) ∧ w.cell? ⟨(ad.add (k * 4)).block, (ad.add (k * 4)).off + 2, none⟩ = some (.int .i64 p.1.2.2.1) ∧ w.cell? ⟨(ad.add (k * 4)).block, (ad.add (k * 4)).off + 3, none⟩ = some (.int .i64 (p.1.2.2.2 : Nat)) ∧ p.1.1.length ≤ p.2.2 ∧ p.2.2 ≤ maxLen ∧ Rd w w.heap.size p.2.1 (by8 p.1.1) := by
  have hr := h.row.rd
  have hb := h.by' p (List.mem_of_getElem? hp)
  obtain ⟨ad, h0, _, h1⟩ := hr _ _ (bkFlat_at hp 0 _ rfl)
  have st : ∀ i v, i ≠ 0 → (bRow p)[i]? = some v → w.cell? ⟨(ad.add (k * 4)).block, (ad.add (k * 4)).off + i, none⟩ = some v := fun i v hi hv => by
    obtain ⟨ad', q0, _, q1⟩ := hr _ _ (bkFlat_at hp i v hv)
    rw [h0] at q0
    injection q0 with q0
    subst q0
    rw [add_litB ad k i hi]
    exact q1
  exact ⟨ad, h0, h1, st 1 _ (by omega) rfl, st 2 _ (by omega) rfl, st 3 _ (by omega) rfl, hb.le.2.1, hb.le.2.2, hb.rd⟩
end Go.Proofs.Ythlbfnoahdjdeaa
namespace Go.Proofs.Ythlbfnoahdjdeaa
set_option linter.unusedVariables false
set_option linter.unusedSimpArgs false
open Go.RowKit

set_option maxRecDepth 100000 in
set_option maxHeartbeats 800000 in
theorem sleq_any (A B : Option Addr) (n c m d b1 b2 : Nat) (xs ys : List UInt8) (w : World) (hx : xs.length = n) (hy : ys.length = m) (hn : n ≤ c) (hc : c ≤ maxLen) (hm : m ≤ d) (hd : d ≤ maxLen) (hr : Rd w b1 A (by8 xs)) (hs : Rd w b2 B (by8 ys)) :
    Calls Try.prog 55 #[.slice A n c, .slice B m d] w (RetQ (.bool (decide (xs = ys))) w) := by
  unfold maxLen at hc hd
  have HX := hide hx
  have HY := hide hy
  have HR := hide hr
  have HS := hide hs
  clear hx hy hr hs
  by_cases hnm : n = m
  · subst hnm
    have hb : ((n : Int) != n) = false := by simp
    go_enter Try.func55, Try.ntmps55
    go_wp2
    go_loopw [13] (fun i wr => ∃ k nq : Nat, k ≤ n ∧ i = .int .i64 k ∧ wr = w.drewN nq ∧ Hid (xs.take k = ys.take k)) (fun i _ => n - (intOf i).toNat)
    case atStart => exact ⟨0, 0, by omega, rfl, rfl, hide rfl⟩
    case round =>
      obtain ⟨k, nq, hk, rfl, rfl, HT⟩ := hrel
      by_cases hlt : k < n
      · have h1 : k < xs.length := by rw [HX.out]; exact hlt
        have h2 : k < ys.length := by rw [HY.out]; exact hlt
        obtain ⟨ad, rfl, _, hcell⟩ := HR.out.byte h1
        obtain ⟨bd, rfl, _, hcell2⟩ := HS.out.byte h2
        have HE := hide (fun he => take_succ_eq h1 h2 HT.out he)
        have HN := hide (show xs.getD k 0 ≠ ys.getD k 0 → xs ≠ ys from fun h e => h (by rw [e]))
        clear h1 h2
        generalize xs.getD k 0 = x at hcell HE HN
        generalize ys.getD k 0 = y at hcell2 HE HN
        by_cases he : x = y
        · subst he
          have HE' := hide (HE.out rfl)
          clear HE
          have hb2 : ((x.toNat : Int) != x.toNat) = false := by simp
          go_wp2
          go_quiet (fail)
          go_wp2
          go_round
          case rel => exact ⟨k + 1, _, by omega, by go_num, rfl, HE'⟩
          case measure => simp [intOf]; omega
        · have hb2 : ((x.toNat : Int) != y.toNat) = true := by
            simp
            intro h
            exact he (UInt8.toNat_inj.1 (by omega))
          go_wp2
          go_quiet (fail)
          go_wp2
          go_ret
          exact ⟨by simp [HN.out he], _, World.drewN_drewN _ _ _⟩
      · have HF := hide (show xs = ys by
          have h := HT.out
          rwa [List.take_of_length_le (by rw [HX.out]; omega), List.take_of_length_le (by rw [HY.out]; omega)] at h)
        go_wp2
        go_ret
        exact ⟨by simp [HF.out], _, rfl⟩
  · have hb : ((n : Int) != m) = true := by simp; omega
    have HF := hide (show xs ≠ ys from fun e => hnm (by rw [← HX.out, ← HY.out, e]))
    go_enter Try.func55, Try.ntmps55
    go_wp2
    go_ret
    exact ⟨by simp [HF.out], 0, rfl⟩
end Go.Proofs.Ythlbfnoahdjdeaa
namespace Go.Proofs.Ythlbfnoahdjdeaa
set_option linter.unusedVariables false
set_option linter.unusedSimpArgs false
open Go.RowKit

def mkD (D : Nat) : Deferred := { target := .collected D, args := #[] }
theorem leave_marks {F : Fence} {n : Nat} {P : Program} {fn : Func} {tmps : Array Value} {R : Ending → World → Prop} {rest : List Deferred} {u : FrameMode} (hu : u ≠ .run) :
    ∀ (Ds : List Nat) (W : World), Ds.Nodup → (∀ D ∈ Ds, W.heap[D]? = some (.deferred (some []))) → (∀ W', Fr (fun k => k ∈ Ds) W W' → LeavesInM F n P fn tmps R rest u W') → LeavesInM F n P fn tmps R (Ds.map mkD ++ rest) u W
  | [], W, _, _, h => h W ((Fr.refl _ W))
  | D :: Ds, W, hn, hd, h => by
    refine ⟨hu, .inl ⟨D, _, rfl, run_takeDeferred (hd D List.mem_cons_self), ?_⟩⟩
    have f1 : Fr (fun k => k = D) W (W.putObj D (.deferred none)) := (Fr.of_grown (grownBy_putObj' W D (.deferred none))).mono (fun i _ e => (Option.some.inj e).symm)
    refine leave_marks hu Ds _ (List.nodup_cons.1 hn).2 (fun E hE => ?_) (fun W' f => h W' ?_)
    · exact f1.blk (hd E (List.mem_cons_of_mem _ hE)) (fun e => by
        have e : E = D := e
        subst e
        exact (List.nodup_cons.1 hn).1 hE)
    · exact (f1.mono (fun i _ e => by have e : i = D := e; subst e; exact List.mem_cons_self)).trans f (fun i _ hi => List.mem_cons_of_mem _ hi)
end Go.Proofs.Ythlbfnoahdjdeaa
namespace Go.Proofs.Ythlbfnoahdjdeaa
set_option linter.unusedVariables false
set_option linter.unusedSimpArgs false
open Go.RowKit
attribute [local go_sem] Oper.semAt_some

theorem BwM.fr0 {w A A' : World} {bo bl : Nat} {bs : List UInt8} {last : Int} (h : BwM w A bo bl bs last) (f : Fr No A A') : BwM w A' bo bl bs last := by
  obtain ⟨v, k1, k2⟩ := h.o
  exact ⟨h.fr.tr f, h.h1, h.h2, ⟨v, f.blk k1 (fun h => h), k2.fr0 f⟩, f.blk h.l (fun h => h)⟩
theorem BwM.olt {w A : World} {bo bl : Nat} {bs : List UInt8} {last : Int} (h : BwM w A bo bl bs last) : bo < A.heap.size := by
  obtain ⟨v, k1, _⟩ := h.o
  exact (Array.getElem?_eq_some_iff.1 k1).1
theorem BwM.llt {w A : World} {bo bl : Nat} {bs : List UInt8} {last : Int} (h : BwM w A bo bl bs last) : bl < A.heap.size := (Array.getElem?_eq_some_iff.1 h.l).1
theorem own_not_def {w : World} {base e n : Nat} {v : Value} {xs : List Value} (h : Own w base e 1 v n xs) {k : Nat} (hk : v.ownBlock = some k) (hd : w.heap[k]? = some (.deferred (some []))) : False := by
  obtain ⟨_, A, c, rfl, _, _, hA⟩ := h
  rcases hA with ⟨rfl, _⟩ | ⟨g, cur, rfl, _, hh, _⟩
  · cases hk
  · have e : g = k := Option.some.inj hk
    subst e
    rw [hh] at hd
    cases hd
/-- a round of Build, at its end. -/
theorem bw_end {w W w5 w7 w8 w9 w10 w11 : World} {bo bl b1 b2 z9 c9 m11 : Nat} {A9 : Option Addr} {v11 : Value} {B0 X R : List UInt8} {la : Int} (hM : BwM w W bo bl B0 la) (f7 : Fr No W w7) (f9 : Fr No w7 w9) (h78 : w7.heap.size ≤ w8.heap.size) (f10 : Fr (Is bo) w9 w10)
    (hx : Own w10 w8.heap.size 5 1 (.slice A9 z9 c9) z9 (by8 X)) (f11 : Fr (fun k => (Value.slice A9 z9 c9).ownBlock = some k) w10 w11) (h11 : w11.heap[bo]? = some (.cells #[.slice A9 z9 c9] 25 (0, 0)))
    (hl12 : (w11.setCell ⟨bo, 0, none⟩ v11).heap[bl]? = some (.cells #[.int .i64 la] 3 (0, 0))) (ho : Own w11 w8.heap.size 5 1 v11 m11 (by8 X ++ by8 R)) (hb : bo ≠ b1 ∧ bo ≠ b2 ∧ bl ≠ b1 ∧ bl ≠ b2 ∧ bo ≠ bl)
    (hs5 : w.heap.size ≤ w5.heap.size ∧ bo < w5.heap.size ∧ bl < w5.heap.size) (le : Int) :
    KeepsFrom w5.heap.size W ((w11.setCell ⟨bo, 0, none⟩ v11).setCell ⟨bl, 0, none⟩ (.int .i64 le)) ∧ KpX b1 b2 W ((w11.setCell ⟨bo, 0, none⟩ v11).setCell ⟨bl, 0, none⟩ (.int .i64 le)) ∧
      ((X ++ R).length = m11 → BwM w ((w11.setCell ⟨bo, 0, none⟩ v11).setCell ⟨bl, 0, none⟩ (.int .i64 le)) bo bl (X ++ R) le) := by
  have g1 : Fr (fun k => k = bo ∨ k = bl) W w10 := ((f7.any _).tr f9).trans f10 (fun i _ e => .inl e)
  have hsz : W.heap.size ≤ w8.heap.size := Nat.le_trans f7.size h78
  have g2 : Fr (fun k => k = bo ∨ k = bl) W w11 := g1.trans f11 (fun i hi e => by have := (hx.lt i e).1; omega)
  have s1 : Fr (Is bo) w11 (w11.setCell ⟨bo, 0, none⟩ v11) := (Fr.refl (Is bo) w11).put 0 _
  have s2 : Fr (Is bl) (w11.setCell ⟨bo, 0, none⟩ v11) ((w11.setCell ⟨bo, 0, none⟩ v11).setCell ⟨bl, 0, none⟩ (.int .i64 le)) := (Fr.refl (Is bl) _).put 0 _
  have g3 := (g2.trans s1 (fun i _ e => .inl e)).trans s2 (fun i _ e => .inr e)
  have q1 : (w11.setCell ⟨bo, 0, none⟩ v11).heap[bo]? = some (.cells #[v11] 25 (0, 0)) := by
    have := heap_setCell_same w11 bo 0 #[.slice A9 z9 c9] 25 v11 h11
    simpa using this
  have q2 : ((w11.setCell ⟨bo, 0, none⟩ v11).setCell ⟨bl, 0, none⟩ (.int .i64 le)).heap[bl]? = some (.cells #[.int .i64 le] 3 (0, 0)) := by
    have := heap_setCell_same (w11.setCell ⟨bo, 0, none⟩ v11) bl 0 #[.int .i64 la] 3 (.int .i64 le) hl12
    simpa using this
  refine ⟨⟨g3.size, fun j o hj hk _ => g3.blk hk (fun e => by rcases e with e | e <;> omega)⟩, KpX.of g3 (fun e => by rcases e with e | e <;> omega) (fun e => by rcases e with e | e <;> omega), fun hm => ⟨hM.fr.trans g3 (fun i hi e => by have := hM.h1; have := hM.h2; rcases e with e | e <;> omega), hM.h1, hM.h2, ⟨v11, s2.blk q1 (fun e => hb.2.2.2.2 e), ?_⟩, q2⟩⟩
  rw [hm, by8_append]
  have := hM.fr.size
  exact ((ho.off s1 (off_is h11 (by decide))).off s2 (off_is hl12 (by decide))).lower (by omega)
def BuildQ (w : World) (l : List Po) (en : Ending) (w' : World) : Prop :=
  Fr No w w' ∧ ((rightP l ∧ ∃ A m, m = (buildP l).length ∧ en = .returned (.tuple #[.slice A m m, .int .i64 0]) ∧ Own w' w.heap.size 5 1 (.slice A m m) m (by8 (buildP l))) ∨
    (¬ rightP l ∧ en = .returned (.tuple #[.slice none 0 0, .int .i64 1])))

set_option maxRecDepth 100000 in
set_option maxHeartbeats 8000000 in
theorem pbuild_in (fr : Nat) (hf8 : 8 ≤ fr) (A : Option Addr) (n c B : Nat) (l : List Po) (w : World) (hl : l.length = n) (hn : n ≤ c) (hc : c ≤ maxLen) (hB : B ≤ w.heap.size) (hr : RdPo w B A l) (hi : InI2 l) (hb : ∀ x ∈ l, x.2.length ≤ 140737488351232) :
    CallsIn Fence.wide fr Try.prog 11 #[.slice A n c] w (BuildQ w l) := by
  have HRt := hide (right_any A n c B l w hl hn hc hB hr hi hb)
  have HL := hide hl
  have HR := hide hr
  have HC := hide hc
  have HBz := hide hB
  unfold maxLen at hc
  clear hl hr hi hb hB
  refine callsIn_of_wp_marks Try.func11 rfl trivial ?_ rfl
  simp only [Try.ntmps11, List.size_toArray, List.length_cons, List.length_nil, Nat.reduceAdd, Nat.reduceSub, Array.replicate_succ, Array.replicate_zero, List.push_toArray, List.append_toArray, List.nil_append, List.cons_append]
  refine wpIn_wide.2 ?_
  go_wp2_with (fail)
  refine HRt.out.mono ?_
  rintro en w1 ⟨rb, hrb, rfl, hfr⟩
  have HRb := hide hrb
  have HF1 := hide hfr
  clear hrb hfr HRt
  cases rb with
  | false =>
    have HNo : Hid (¬ rightP l) := hide (fun h => by have := HRb.out.2 h; cases this)
    go_wp2_with (fail)
    show LeavesInM Fence.wide fr Try.prog Try.f11 _ _ ([] : List Deferred) .returning _
    show LeavesIn _ _ _ _ _ _ _ _ _
    exact ⟨_, results_tmp2 (fn := Try.f11) rfl _ _ _, HF1.out, .inr ⟨HNo.out, rfl⟩⟩
  | true =>
    have HRi : Hid (rightP l) := hide (HRb.out.1 rfl)
    have hn16 : n ≤ 16384 := by rw [← HL.out]; exact right_16 HRi.out
    have HPu := hide (putU_any none 0 0 0 [] n w1 rfl (Nat.le_refl _) (Nat.zero_le _) (by omega) (Nat.zero_le _) (Rd.nil _ _ _) (by omega))
    have hcv : IntKind.u64.wrap (n : Int) = (n : Int) := IntWalk.u64_in _ (by omega)
    clear HRb
    go_wp2_with (fail)
    refine HPu.out.mono ?_
    rintro en w2 ⟨v2, rfl, hown, hfr⟩
    rw [List.nil_append] at hown
    obtain ⟨z2, hz2⟩ : ∃ z, (enc n).length = z := ⟨_, rfl⟩
    rw [hz2] at hown
    have HZ2 := hide hz2
    obtain ⟨A2, c2, rfl, _⟩ := hown.form
    have HF2 := hide (HF1.out.tr hfr)
    have HO2 := hide (hown.lower HF1.out.size)
    clear hown hfr HPu hz2
    obtain ⟨w3, hw3⟩ : ∃ W, W = (w2.alloc (.cells #[.slice A2 z2 c2] 25)).alloc (.cells #[.int .i64 (-1)] 3) := ⟨_, rfl⟩
    obtain ⟨bo, hbo⟩ : ∃ bo, bo = w2.heap.size := ⟨_, rfl⟩
    obtain ⟨bl, hbl⟩ : ∃ bl, bl = w2.heap.size + 1 := ⟨_, rfl⟩
    have HM3 : Hid (BwM w w3 bo bl (enc n ++ bodP l 0) (aheadPo l 0)) := hide (by
      have fa : Fr No w2 (w2.alloc (.cells #[.slice A2 z2 c2] 25)) := (Fr.refl No w2).alloc _
      have fb : Fr No w2 w3 := by rw [hw3]; exact fa.alloc _
      refine ⟨HF2.out.tr fb, by rw [hbo]; exact HF2.out.size, by rw [hbl]; have := HF2.out.size; omega, ⟨.slice A2 z2 c2, ?_, ?_⟩, ?_⟩
      · rw [hw3, hbo]
        exact ((Fr.refl No _).alloc _).blk (heap_alloc_new w2 _) (fun h => h)
      · have h := HO2.out.fr0 fb
        rw [show bodP l 0 = [] from rfl, List.append_nil, HZ2.out]
        exact h
      · rw [hw3, hbl]
        have := heap_alloc_new (w2.alloc (.cells #[.slice A2 z2 c2] 25)) (.cells #[.int .i64 (-1)] 3)
        rw [show (w2.alloc (.cells #[.slice A2 z2 c2] 25)).heap.size = w2.heap.size + 1 by simp] at this
        exact this)
    have HW3 := hide hw3
    have HBo := hide hbo
    have HBl := hide hbl
    clear hw3 hbo hbl
    go_upto_region 5 with (fail)
    rw [← HW3.out, ← HBl.out, ← HBo.out]
    have HAn : Hid (0 < n → ∃ ad, A = some ad) := hide (fun h => by
      obtain ⟨ad, _, _, e, _⟩ := HR.out.at (k := 0) (by rw [HL.out]; exact h)
      exact ⟨ad, e⟩)
    obtain ⟨w5, hw5⟩ : ∃ W, W = (w3.alloc (.cells #[.slice A n c] 22)).alloc (.cells #[.int .i64 8] 3) := ⟨_, rfl⟩
    obtain ⟨b1, hb1⟩ : ∃ b1, b1 = w3.heap.size := ⟨_, rfl⟩
    obtain ⟨b2, hb2⟩ : ∃ b2, b2 = w3.heap.size + 1 := ⟨_, rfl⟩
    have HM5 : Hid (BwM w w5 bo bl (enc n ++ bodP l 0) (aheadPo l 0)) := hide (by rw [hw5]; exact HM3.out.fr0 (((Fr.refl No w3).alloc _).alloc _))
    have HB1 : Hid (w5.heap[b1]? = some (.cells #[.slice A n c] 22 (0, 0))) := hide (by
      rw [hw5, hb1]
      exact ((Fr.refl No _).alloc _).blk (heap_alloc_new w3 _) (fun h => h))
    have HB2 : Hid (w5.heap[b2]? = some (.cells #[.int .i64 8] 3 (0, 0))) := hide (by
      rw [hw5, hb2]
      have := heap_alloc_new (w3.alloc (.cells #[.slice A n c] 22)) (.cells #[.int .i64 8] 3)
      rw [show (w3.alloc (.cells #[.slice A n c] 22)).heap.size = w3.heap.size + 1 by simp] at this
      exact this)
    have HCh := hide (chunkPo_any A n c w3)
    have HB12 : Hid (bo ≠ b1 ∧ bo ≠ b2 ∧ bl ≠ b1 ∧ bl ≠ b2 ∧ bo ≠ bl) := hide (by
      have h1 := HM3.out.olt
      have h2 := HM3.out.llt
      have h3 := HBo.out
      have h4 := HBl.out
      omega)
    rw [← hw5, ← hb2, ← hb1] at HCh
    have HSz5 : Hid (w.heap.size ≤ w5.heap.size ∧ bo < w5.heap.size ∧ bl < w5.heap.size) := hide ⟨HM5.out.fr.size, HM5.out.olt, HM5.out.llt⟩
    have HSq := hide (chunkPo_in (fr - 1) (by omega) b1 b2 n c A w5 HAn.out hn HC.out (by omega) HB1.out HB2.out)
    have HEg := hide (enters_of Try.func68 (by kernel_rfl) rfl)
    have hbl5 := HSz5.out
    clear hw5 hb1 hb2
    go_wp2_with (fail)
    refine HCh.out.mono ?_
    rintro en w5 ⟨rfl, rfl⟩
    go_upto_block 0 with (fail)
    refine wp_named fun K hK => ?_
    refine wp_act fun a0 ha0 => ?_
    have HA0 := hide ha0
    have HEa : Hid (a0.eval (.tmp 17) = .func (.func 68) #[] #[.pointer (some ⟨b1, 0, none⟩), .pointer (some ⟨b2, 0, none⟩)]) := hide (by rw [ha0]; rfl)
    have hd0 : a0.defers = [] := by rw [ha0]
    clear ha0
    have hrest : ∀ (D : Nat) (W : World), w5.heap.size ≤ D → W.heap[D]? = some (.deferred (some [])) → BwM w W bo bl (enc n ++ bodP l (nbP n)) (aheadPo l (nbP n)) → K { a0 with defers := [mkD D] } W := by
      intro D W hD hWD hM
      have HWD := hide hWD
      have HM := hide hM
      obtain ⟨vo, q1, q2⟩ := hM.o
      obtain ⟨z, hz⟩ : ∃ z, (enc n ++ bodP l (nbP n)).length = z := ⟨_, rfl⟩
      rw [hz] at q2
      obtain ⟨Ao, co, rfl, o1, o2, _⟩ := q2.form
      have HCl := hide (clip_any Ao z co W o1 o2)
      have HOc := hide q2.clip
      have HZ := hide hz
      have c1 : W.cell? ⟨bo, 0, none⟩ = some (.slice Ao z co) := cell_of_row _ _ 0 _ _ _ q1
      have HDw : Hid (w.heap.size ≤ D) := hide (by have := HSz5.out.1; omega)
      refine hK _ _ ?_
      have ha0 := HA0.out
      clear HA0
      subst ha0
      dsimp only
      clear hWD hM q1 q2 o1 o2 hz hK hD hd0
      go_wp2_with (fail)
      refine HCl.out.mono ?_
      rintro en w9 ⟨rfl, rfl⟩
      go_wp2_with (fail)
      show LeavesInM Fence.wide fr Try.prog Try.f11 _ _ ([D].map mkD ++ []) .returning _
      refine leave_marks (by simp) [D] _ (by simp) (fun E hE => by rw [List.mem_singleton.1 hE]; exact HWD.out) fun W' ff => ?_
      have hF' : Fr No w W' := HM.out.fr.trans ff (fun j hj hl => by have := List.mem_singleton.1 hl; have := HDw.out; omega)
      show LeavesIn _ _ _ _ _ _ _ _ _
      have e : buildP l = enc n ++ bodP l (nbP n) := by rw [buildP, HL.out]
      refine ⟨_, results_tmp2 (fn := Try.f11) rfl _ _ _, hF', .inl ⟨HRi.out, Ao, z, by rw [e, HZ.out], rfl, ?_⟩⟩
      rw [e]
      exact HOc.out.fr ff (fun k hk hl => by
        have := List.mem_singleton.1 hl
        subst this
        exact own_not_def HOc.out hk HWD.out)
    clear hK
    refine wp_block ?_
    refine (wpIn_wide (n := fr)).1 ?_
    refine wpIn_rangeFunc_memP (F := Fence.wide) rfl (by omega) HEa.out trivial HEg.out HSq.out KpX.t KpX.b (fun pre x W l o o' h hl ho => h) (Fr.refl _ _) (fun x => rfl)
      (fun pre W => BwM w W bo bl (enc n ++ bodP l pre.length) (aheadPo l pre.length))
      (fun cc pre W => False) ?hI ?hIx ?h0
      (fun j => { tmps := (a0.tmps.setIfInBounds 18 (chP A n j)).setIfInBounds 6 (chP A n j), defers := [] }) ?assign ?body ?done ?stop ?panic
    case hI => exact fun s A1' A2' h ff => h.loose (by omega) ff
    case hIx => exact fun _ _ _ _ h _ => h
    case h0 => exact HM5.out
    case assign =>
      intro lp x W K hK
      have ha0 := HA0.out
      clear HA0
      subst ha0
      have HKx := hide hK
      clear hK
      gi_wp2
      have hK := HKx.out
      simpa using hK
    case panic => exact fun D pre W _ hPn _ _ => hPn.elim
    case stop => exact fun D cc pre W _ _ h _ => h.elim
    case done =>
      rintro D xs W hD rfl hM hKd
      rw [List.length_range] at hM
      rw [hd0]
      exact hrest D W hD hKd hM
    case body =>
      rintro lp pre j W hM ⟨hj, hjn⟩ _
      have hf5 : 1 ≤ fr - 1 - 1 := by omega
      subst hj
      have hln : ∀ x : Nat, (pre ++ [x]).length = pre.length + 1 := fun x => by simp
      have HLn := hide (hln pre.length)
      obtain ⟨j, hj⟩ : ∃ j, pre.length = j := ⟨_, rfl⟩
      have HJ := hide hj
      rw [hj] at hM hjn ⊢
      have HM := hide hM
      have HJn := hide hjn
      have hjb : 8 * j < n := by unfold nbP at hjn; omega
      obtain ⟨ad, rfl⟩ := HAn.out (by omega)
      obtain ⟨k, hk⟩ : ∃ k, min 8 (n - 8 * j) = k := ⟨_, rfl⟩
      have hk1 : 1 ≤ k := by omega
      have hk8 : k ≤ 8 := by omega
      obtain ⟨ad2, had2⟩ : ∃ ad2, ad.add (8 * j * 2) = ad2 := ⟨_, rfl⟩
      have hrd : RdPo W B (some ad2) (blkPo l j) := by rw [← had2]; exact (HR.out.fr0 hM.fr).part (8 * j) 8
      have HRd := hide hrd
      have HBk : Hid ((blkPo l j).length = k) := hide (by rw [blkPo_len, HL.out]; exact hk)
      have hch : chP (some ad) n j = .slice (some ad2) k k := by unfold chP; rw [hk, Option.map_some, had2]
      rw [hch]
      have HRw := hide (rows_any (some ad2) k k B (aheadPo l j) (blkPo l j) W HBk.out (Nat.le_refl _) (by unfold maxLen; omega) hrd (right_row HRi.out j))
      obtain ⟨R, hR⟩ : ∃ R, rowsB (aheadPo l j) (blkPo l j) = R := ⟨_, rfl⟩
      rw [hR] at HRw
      have HRR := hide hR
      have hRl : R.length ≤ 9000000 := by rw [← hR]; exact rowsB_le (right_row HRi.out j)
      obtain ⟨la, hla⟩ : ∃ la, aheadPo l j = la := ⟨_, rfl⟩
      have hle := end_up HRi.out (j := j) (by rw [HL.out]; exact hjn)
      have HEd := hide (end_blk HBk.out hk1)
      obtain ⟨le, hle2⟩ : ∃ le, lastD (l.take (8 * (j + 1))) = le := ⟨_, rfl⟩
      have hla2 := (right_row HRi.out j).a1
      obtain ⟨mR, hmR⟩ : ∃ mR, R.length = mR := ⟨_, rfl⟩
      have HMR := hide hmR
      have kD := hrd.at (k := k - 1) (by rw [HBk.out]; omega)
      obtain ⟨ad3, _, _, e3, _, kD, _⟩ := kD
      injection e3 with e3
      subst e3
      rw [← HEd.out] at kD
      rw [hla, hle2] at hle
      rw [hla] at hla2 HRw HM
      rw [hle2] at HEd kD
      have HLa := hide hla
      have HLe := hide hle2
      have c1 : W.cell? ⟨bl, 0, none⟩ = some (.int .i64 la) := cell_of_row _ _ 0 _ _ _ HM.out.l
      have ha0 := HA0.out
      clear HA0
      subst ha0
      clear hM hjn hk had2 hrd hch hR hla hle2 hrest
      obtain ⟨hle3, hle4⟩ := hle
      gi_wp2_with (refine ⟨trivial, ?_⟩; gi_at_call 43; refine (CallsIn.inRound lp (callsIn_wide.2 HRw.out)).mono ?_; rintro en w7 ⟨v7, rfl, hown, hfr⟩; rw [hmR] at hown; have HO7 := hide hown; obtain ⟨Ar, cr, rfl, ra, rb, _, _⟩ := hown.form; have c7 := hfr.cell kD (fun h => h); have HM7 := hide (HM.out.fr0 hfr); have HRd7 := hide (HRd.out.fr0 hfr); have HFr7 := hide hfr; clear hown hfr)
      have c8 : w7.cell? ⟨bl, 0, none⟩ = some (.int .i64 la) := cell_of_row _ _ 0 _ _ _ HM7.out.l
      have hmo : Try.prog.follows .mixedOrders = true := by kernel_rfl
      obtain ⟨vo, hq7, ho7⟩ := HM7.out.o
      obtain ⟨Bs, hBs⟩ : ∃ Bs, enc n ++ bodP l j = Bs := ⟨_, rfl⟩
      rw [hBs] at ho7 HM7
      obtain ⟨zo, hzo⟩ : ∃ zo, Bs.length = zo := ⟨_, rfl⟩
      rw [hzo] at ho7
      obtain ⟨Ao, co, rfl, o1, o2, _, o4, _⟩ := ho7.form
      have hzb : zo ≤ 20000000000 := by
        rw [← hzo, ← hBs, List.length_append]
        have h1 := bodP_le HRi.out j
        have h2 := (enc_len n).2
        omega
      obtain ⟨dd, hdd⟩ : ∃ dd : Nat, (le - la).toNat = dd := ⟨_, rfl⟩
      have hd1 : le - la = (dd : Int) := by omega
      have hd2 : dd ≤ 20000 := by omega
      have hd3 : IntKind.u64.wrap (dd : Int) = (dd : Int) := IntWalk.u64_in _ (by omega)
      have hd5 : IntKind.i64.wrap (dd : Int) = (dd : Int) := IntWalk.i64_in _ (by omega)
      have hd4 : IntKind.u64.wrap (mR : Int) = (mR : Int) := IntWalk.u64_in _ (by omega)
      obtain ⟨z8, hz8⟩ : ∃ z8, (Bs ++ enc mR).length = z8 := ⟨_, rfl⟩
      obtain ⟨z9, hz9⟩ : ∃ z9, (Bs ++ enc mR ++ enc dd).length = z9 := ⟨_, rfl⟩
      have hz8b : z8 ≤ 20000000100 := by rw [← hz8, List.length_append, hzo]; have := (enc_len mR).2; omega
      have HP4 := hide (putU_any Ao zo co w7.heap.size Bs mR w7.drew hzo o1 o2 (by omega) (Nat.le_refl _) (o4.fr0 ((Fr.refl No w7).drew)) (by omega))
      have k0 : w7.drew.cell? ⟨bo, 0, none⟩ = some (.slice Ao zo co) := cell_of_row w7 _ 0 _ _ _ hq7
      have k6 : w7.drew.cell? ⟨bl, 0, none⟩ = some (.int .i64 la) := c8
      have HQ7 := hide hq7
      have HBs := hide hBs
      have HZ8 := hide hz8
      have HZ9 := hide hz9
      have HDd := hide hdd
      clear hq7 ho7 o1 o2 o4 hBs hzo hz8 hz9 hdd c7 c8 ra rb
      refine wpIn_region_round lp hmo (by kernel_rfl) ?_
      refine wpAnyIn_take (i := 1) (v := (.slice Ar mR cr)) rfl rfl (by kernel_rfl) (by kernel_rfl) (by kernel_rfl) (fun _ _ _ h => h) ⟨.inl ⟨by kernel_rfl, fun w => by go_simp⟩, fun w => rfl⟩ ?_
      refine wpAnyIn_take (i := 5) (v := (.int .i64 le)) rfl rfl (by kernel_rfl) (by kernel_rfl) (by kernel_rfl) (fun _ _ _ h => h) ⟨.inl ⟨by kernel_rfl, fun w => by go_simp⟩, fun w => rfl⟩ ?_
      refine wpAnyIn_take (i := 2) (v := (.int .i64 (mR : Nat))) rfl rfl (by kernel_rfl) (by kernel_rfl) (by kernel_rfl) (fun _ _ _ h => h) ⟨.inl ⟨by kernel_rfl, fun w => by go_simp⟩, fun w => rfl⟩ ?_
      refine wpAnyIn_take (i := 3) (v := (.int .u64 (mR : Nat))) rfl rfl (by kernel_rfl) (by kernel_rfl) (by kernel_rfl) (fun _ _ _ h => h) ⟨.inl ⟨by kernel_rfl, fun w => by go_simp⟩, fun w => rfl⟩ ?_
      refine wpAnyIn_ready (rs := [0, 6]) (by kernel_rfl) (by simp) ?_
      refine AllReadyIn.cons rfl (fun K hK => ?_) (AllReadyIn.cons rfl (fun K hK => ?_) AllReadyIn.nil)
      · go_simp
        refine hK _ _ ?_
        clear hK K
        refine wpAnyIn_ready (rs := [4, 6]) (by kernel_rfl) (by simp) ?_
        refine AllReadyIn.cons rfl (fun K hK => ?_) (AllReadyIn.cons rfl (fun K hK => ?_) AllReadyIn.nil)
        · skip
          go_simp
          refine ⟨trivial, ?_⟩
          gi_at_call 41
          refine (callsIn_wide.2 HP4.out).mono ?_
          rintro en w8 ⟨v8, rfl, hown, hfr⟩
          rw [HZ8.out] at hown
          obtain ⟨A8, c8a, rfl, g1, g2, _, g4, _⟩ := hown.form
          have HF8 := hide hfr
          have HP9 := hide (putU_any A8 z8 c8a w8.heap.size (Bs ++ enc mR) dd w8 HZ8.out g1 g2 (by omega) (Nat.le_refl _) g4 (by omega))
          have c8 : w8.cell? ⟨bl, 0, none⟩ = some (.int .i64 la) := cell_of_row _ _ 0 _ _ _ (hfr.blk HM7.out.l (fun h => h))
          clear hown hfr g1 g2 g4
          go_simp
          refine hK _ _ ?_
          clear hK K
          refine wpAnyIn_ready (rs := [6]) (by kernel_rfl) (by simp) ?_
          refine AllReadyIn.cons rfl (fun K hK => ?_) AllReadyIn.nil
          go_simp
          refine hK _ _ ?_
          clear hK K
          refine wpAnyIn_take (i := 7) (v := (.int .i64 (dd : Nat))) rfl rfl (by kernel_rfl) (by kernel_rfl) (by kernel_rfl) (fun _ _ _ h => h) ⟨.inl ⟨by kernel_rfl, fun w => by go_simp⟩, fun w => rfl⟩ ?_
          refine wpAnyIn_take (i := 8) (v := (.int .u64 (dd : Nat))) rfl rfl (by kernel_rfl) (by kernel_rfl) (by kernel_rfl) (fun _ _ _ h => h) ⟨.inl ⟨by kernel_rfl, fun w => by go_simp⟩, fun w => rfl⟩ ?_
          refine wpAnyIn_ready (rs := [9]) (by kernel_rfl) (by simp) ?_
          refine AllReadyIn.cons rfl (fun K hK => ?_) AllReadyIn.nil
          go_simp
          refine ⟨trivial, ?_⟩
          gi_at_call 41
          refine (callsIn_wide.2 HP9.out).mono ?_
          rintro en w9 ⟨v9, rfl, hown, hfr⟩
          rw [HZ9.out] at hown
          obtain ⟨A9, c9a, rfl, _⟩ := id hown.form
          have HO9 := hide hown
          have HF9 : Hid (Fr No w7 w9) := hide ((Fr.of_drewN (n := 1) HF8.out).tr hfr)
          have HSz9 : Hid (w7.heap.size ≤ w8.heap.size) := hide HF8.out.size
          have HS89 : Hid (w8.heap.size ≤ w9.heap.size) := hide hfr.size
          have hq9 := HF9.out.blk HQ7.out (fun h => h)
          have HQ9 := hide hq9
          have k9 : w9.cell? ⟨bo, 0, none⟩ = some (.slice Ao zo co) := cell_of_row _ _ 0 _ _ _ hq9
          have f9 : w9.frozen? ⟨bo, 0, none⟩ = false := frozen_of_row _ _ _ _ _ hq9
          clear hown hfr hq9
          go_simp
          refine hK _ _ ?_
          clear hK K
          refine wpAnyIn_ready (rs := [10]) (by kernel_rfl) (by simp) ?_
          refine AllReadyIn.cons rfl (fun K hK => ?_) AllReadyIn.nil
          go_simp
          refine hK _ _ ?_
          clear hK K
          refine wpAnyIn_done (by kernel_rfl) ?_ _
          go_simp
          clear k9 f9
          have hO9 := HO9.out
          have hs9 := HFr7.out.size
          have hs10 := HSz9.out
          have hq10 : (w9.setCell ⟨bo, 0, none⟩ (.slice A9 z9 c9a)).heap[bo]? = some (.cells #[.slice A9 z9 c9a] 25 (0, 0)) := by
            have := heap_setCell_same w9 bo 0 #[.slice Ao zo co] 25 (.slice A9 z9 c9a) HQ9.out
            simpa using this
          have fs1 : Fr (Is bo) w9 (w9.setCell ⟨bo, 0, none⟩ (.slice A9 z9 c9a)) := (Fr.refl (Is bo) w9).put 0 _
          have HX10 : Hid (Own (w9.setCell ⟨bo, 0, none⟩ (.slice A9 z9 c9a)) w8.heap.size 5 1 (.slice A9 z9 c9a) z9 (by8 (Bs ++ enc mR ++ enc dd))) := hide (hO9.off fs1 (off_is HQ9.out (by decide)))
          have HR10 := hide ((HO7.out.fr0 HF9.out).off fs1 (off_is HQ9.out (by decide)))
          have HFs1 := hide fs1
          have HQ10 := hide hq10
          obtain ⟨w10, hw10⟩ : ∃ W1, w9.setCell ⟨bo, 0, none⟩ (.slice A9 z9 c9a) = W1 := ⟨_, rfl⟩
          rw [hw10] at HX10 HR10 HFs1 HQ10 ⊢
          have k10 : w10.cell? ⟨bo, 0, none⟩ = some (.slice A9 z9 c9a) := cell_of_row _ _ 0 _ _ _ HQ10.out
          have HS10 := hide (Src.ofRd (P := Try.prog) (size := 1) w10 Try.underlying25 Ar mR cr (by8 R) (by rw [by8_length, HMR.out]; omega) (by omega) HR10.out.rd (by8_one _))
          obtain ⟨i0, hi, hz, hsz, hby⟩ := info_parts Try.info5
          have hz9b : z9 ≤ 20000000200 := by rw [← HZ9.out, List.length_append, HZ8.out]; have := (enc_len dd).2; omega
          have e1 : (z9 + mR) * 1 ≤ 140737488355328 := by omega
          have e2 : z9 + mR ≤ maxLen := by unfold maxLen; omega
          have e3 : w8.heap.size ≤ w10.heap.size := Nat.le_trans HS89.out HFs1.out.size
          clear hO9 fs1 hq10 hw10
          gi_wp2_with (gi_at_builtin; refine wpListIn_append_gen _ rfl (.tmp 39) (.tmp 40) 25 25 rfl w8.heap.size 5 i0 (.int .u8 0) 1 1 Try.underlying25 hi hz hsz hby rfl (.slice A9 z9 c9a) z9 (by8 (Bs ++ enc mR ++ enc dd)) rfl HX10.out _ mR (by8 R) rfl HS10.out e1 e2 e3 ?_; intro v11 w11 hown hfr hat; obtain ⟨A11, c11, rfl, _⟩ := id hown.form; have HO11 := hide hown; have HF11 := hide hfr; have hq11 := hfr.blk HQ10.out (fun e => HX10.out.ne_blk e HQ10.out (by decide)); have HQ11 := hide hq11; have k11 : w11.cell? ⟨bo, 0, none⟩ = some (.slice A9 z9 c9a) := cell_of_row _ _ 0 _ _ _ hq11; have fz11 : w11.frozen? ⟨bo, 0, none⟩ = false := frozen_of_row _ _ _ _ _ hq11; have hl9 := HF9.out.blk HM7.out.l (fun h => h); have hl10 := HFs1.out.blk hl9 (fun e => HB12.out.2.2.2.2 (Eq.symm e)); have hl11 := hfr.blk hl10 (fun e => HX10.out.ne_blk e hl10 (by decide)); have fs2 : Fr (Is bo) w11 (w11.setCell ⟨bo, 0, none⟩ (.slice A11 (z9 + mR) c11)) := (Fr.refl (Is bo) w11).put 0 _; have hl12 := fs2.blk hl11 (fun e => HB12.out.2.2.2.2 (Eq.symm e)); have HL12 := hide hl12; have k12 : (w11.setCell ⟨bo, 0, none⟩ (.slice A11 (z9 + mR) c11)).cell? ⟨bl, 0, none⟩ = some (.int .i64 la) := cell_of_row _ _ 0 _ _ _ hl12; have fz12 : (w11.setCell ⟨bo, 0, none⟩ (.slice A11 (z9 + mR) c11)).frozen? ⟨bl, 0, none⟩ = false := frozen_of_row _ _ _ _ _ hl12; clear hown hfr hat hq11 hl9 hl10 hl11 hl12 fs2)
          have hend := bw_end HM.out HFr7.out HF9.out HSz9.out HFs1.out HX10.out HF11.out HQ11.out HL12.out HO11.out HB12.out HSz5.out le
          refine ⟨hend.1, hend.2.1, ?_⟩
          dsimp only
          rw [show (pre ++ [j]).length = j + 1 by rw [List.length_append, HJ.out]; rfl, ahead_succ, HLe.out, bodP_succ, pieceP, HRR.out, HMR.out, HLe.out, HLa.out, HDd.out, ← List.append_assoc, ← List.append_assoc, ← List.append_assoc, HBs.out]
          exact hend.2.2 (by rw [List.length_append, HZ9.out, HMR.out])
        · go_simp
          refine hK _ _ ?_
          clear hK K
          refine wpAnyIn_take (i := 7) (v := (.int .i64 (dd : Nat))) rfl rfl (by kernel_rfl) (by kernel_rfl) (by kernel_rfl) (fun _ _ _ h => h) ⟨.inl ⟨by kernel_rfl, fun w => by go_simp⟩, fun w => rfl⟩ ?_
          refine wpAnyIn_take (i := 8) (v := (.int .u64 (dd : Nat))) rfl rfl (by kernel_rfl) (by kernel_rfl) (by kernel_rfl) (fun _ _ _ h => h) ⟨.inl ⟨by kernel_rfl, fun w => by go_simp⟩, fun w => rfl⟩ ?_
          refine wpAnyIn_ready (rs := [4]) (by kernel_rfl) (by simp) ?_
          refine AllReadyIn.cons rfl (fun K hK => ?_) AllReadyIn.nil
          go_simp
          refine ⟨trivial, ?_⟩
          gi_at_call 41
          refine (callsIn_wide.2 HP4.out).mono ?_
          rintro en w8 ⟨v8, rfl, hown, hfr⟩
          rw [HZ8.out] at hown
          obtain ⟨A8, c8a, rfl, g1, g2, _, g4, _⟩ := hown.form
          have HF8 := hide hfr
          have HP9 := hide (putU_any A8 z8 c8a w8.heap.size (Bs ++ enc mR) dd w8 HZ8.out g1 g2 (by omega) (Nat.le_refl _) g4 (by omega))
          have c8 : w8.cell? ⟨bl, 0, none⟩ = some (.int .i64 la) := cell_of_row _ _ 0 _ _ _ (hfr.blk HM7.out.l (fun h => h))
          clear hown hfr g1 g2 g4
          go_simp
          refine hK _ _ ?_
          clear hK K
          refine wpAnyIn_ready (rs := [9]) (by kernel_rfl) (by simp) ?_
          refine AllReadyIn.cons rfl (fun K hK => ?_) AllReadyIn.nil
          go_simp
          refine ⟨trivial, ?_⟩
          gi_at_call 41
          refine (callsIn_wide.2 HP9.out).mono ?_
          rintro en w9 ⟨v9, rfl, hown, hfr⟩
          rw [HZ9.out] at hown
          obtain ⟨A9, c9a, rfl, _⟩ := id hown.form
          have HO9 := hide hown
          have HF9 : Hid (Fr No w7 w9) := hide ((Fr.of_drewN (n := 1) HF8.out).tr hfr)
          have HSz9 : Hid (w7.heap.size ≤ w8.heap.size) := hide HF8.out.size
          have HS89 : Hid (w8.heap.size ≤ w9.heap.size) := hide hfr.size
          have hq9 := HF9.out.blk HQ7.out (fun h => h)
          have HQ9 := hide hq9
          have k9 : w9.cell? ⟨bo, 0, none⟩ = some (.slice Ao zo co) := cell_of_row _ _ 0 _ _ _ hq9
          have f9 : w9.frozen? ⟨bo, 0, none⟩ = false := frozen_of_row _ _ _ _ _ hq9
          clear hown hfr hq9
          go_simp
          refine hK _ _ ?_
          clear hK K
          refine wpAnyIn_ready (rs := [10]) (by kernel_rfl) (by simp) ?_
          refine AllReadyIn.cons rfl (fun K hK => ?_) AllReadyIn.nil
          go_simp
          refine hK _ _ ?_
          clear hK K
          refine wpAnyIn_done (by kernel_rfl) ?_ _
          go_simp
          clear k9 f9
          have hO9 := HO9.out
          have hs9 := HFr7.out.size
          have hs10 := HSz9.out
          have hq10 : (w9.setCell ⟨bo, 0, none⟩ (.slice A9 z9 c9a)).heap[bo]? = some (.cells #[.slice A9 z9 c9a] 25 (0, 0)) := by
            have := heap_setCell_same w9 bo 0 #[.slice Ao zo co] 25 (.slice A9 z9 c9a) HQ9.out
            simpa using this
          have fs1 : Fr (Is bo) w9 (w9.setCell ⟨bo, 0, none⟩ (.slice A9 z9 c9a)) := (Fr.refl (Is bo) w9).put 0 _
          have HX10 : Hid (Own (w9.setCell ⟨bo, 0, none⟩ (.slice A9 z9 c9a)) w8.heap.size 5 1 (.slice A9 z9 c9a) z9 (by8 (Bs ++ enc mR ++ enc dd))) := hide (hO9.off fs1 (off_is HQ9.out (by decide)))
          have HR10 := hide ((HO7.out.fr0 HF9.out).off fs1 (off_is HQ9.out (by decide)))
          have HFs1 := hide fs1
          have HQ10 := hide hq10
          obtain ⟨w10, hw10⟩ : ∃ W1, w9.setCell ⟨bo, 0, none⟩ (.slice A9 z9 c9a) = W1 := ⟨_, rfl⟩
          rw [hw10] at HX10 HR10 HFs1 HQ10 ⊢
          have k10 : w10.cell? ⟨bo, 0, none⟩ = some (.slice A9 z9 c9a) := cell_of_row _ _ 0 _ _ _ HQ10.out
          have HS10 := hide (Src.ofRd (P := Try.prog) (size := 1) w10 Try.underlying25 Ar mR cr (by8 R) (by rw [by8_length, HMR.out]; omega) (by omega) HR10.out.rd (by8_one _))
          obtain ⟨i0, hi, hz, hsz, hby⟩ := info_parts Try.info5
          have hz9b : z9 ≤ 20000000200 := by rw [← HZ9.out, List.length_append, HZ8.out]; have := (enc_len dd).2; omega
          have e1 : (z9 + mR) * 1 ≤ 140737488355328 := by omega
          have e2 : z9 + mR ≤ maxLen := by unfold maxLen; omega
          have e3 : w8.heap.size ≤ w10.heap.size := Nat.le_trans HS89.out HFs1.out.size
          clear hO9 fs1 hq10 hw10
          gi_wp2_with (gi_at_builtin; refine wpListIn_append_gen _ rfl (.tmp 39) (.tmp 40) 25 25 rfl w8.heap.size 5 i0 (.int .u8 0) 1 1 Try.underlying25 hi hz hsz hby rfl (.slice A9 z9 c9a) z9 (by8 (Bs ++ enc mR ++ enc dd)) rfl HX10.out _ mR (by8 R) rfl HS10.out e1 e2 e3 ?_; intro v11 w11 hown hfr hat; obtain ⟨A11, c11, rfl, _⟩ := id hown.form; have HO11 := hide hown; have HF11 := hide hfr; have hq11 := hfr.blk HQ10.out (fun e => HX10.out.ne_blk e HQ10.out (by decide)); have HQ11 := hide hq11; have k11 : w11.cell? ⟨bo, 0, none⟩ = some (.slice A9 z9 c9a) := cell_of_row _ _ 0 _ _ _ hq11; have fz11 : w11.frozen? ⟨bo, 0, none⟩ = false := frozen_of_row _ _ _ _ _ hq11; have hl9 := HF9.out.blk HM7.out.l (fun h => h); have hl10 := HFs1.out.blk hl9 (fun e => HB12.out.2.2.2.2 (Eq.symm e)); have hl11 := hfr.blk hl10 (fun e => HX10.out.ne_blk e hl10 (by decide)); have fs2 : Fr (Is bo) w11 (w11.setCell ⟨bo, 0, none⟩ (.slice A11 (z9 + mR) c11)) := (Fr.refl (Is bo) w11).put 0 _; have hl12 := fs2.blk hl11 (fun e => HB12.out.2.2.2.2 (Eq.symm e)); have HL12 := hide hl12; have k12 : (w11.setCell ⟨bo, 0, none⟩ (.slice A11 (z9 + mR) c11)).cell? ⟨bl, 0, none⟩ = some (.int .i64 la) := cell_of_row _ _ 0 _ _ _ hl12; have fz12 : (w11.setCell ⟨bo, 0, none⟩ (.slice A11 (z9 + mR) c11)).frozen? ⟨bl, 0, none⟩ = false := frozen_of_row _ _ _ _ _ hl12; clear hown hfr hat hq11 hl9 hl10 hl11 hl12 fs2)
          have hend := bw_end HM.out HFr7.out HF9.out HSz9.out HFs1.out HX10.out HF11.out HQ11.out HL12.out HO11.out HB12.out HSz5.out le
          refine ⟨hend.1, hend.2.1, ?_⟩
          dsimp only
          rw [show (pre ++ [j]).length = j + 1 by rw [List.length_append, HJ.out]; rfl, ahead_succ, HLe.out, bodP_succ, pieceP, HRR.out, HMR.out, HLe.out, HLa.out, HDd.out, ← List.append_assoc, ← List.append_assoc, ← List.append_assoc, HBs.out]
          exact hend.2.2 (by rw [List.length_append, HZ9.out, HMR.out])
      · go_simp
        refine hK _ _ ?_
        clear hK K
        refine wpAnyIn_take (i := 7) (v := (.int .i64 (dd : Nat))) rfl rfl (by kernel_rfl) (by kernel_rfl) (by kernel_rfl) (fun _ _ _ h => h) ⟨.inl ⟨by kernel_rfl, fun w => by go_simp⟩, fun w => rfl⟩ ?_
        refine wpAnyIn_take (i := 8) (v := (.int .u64 (dd : Nat))) rfl rfl (by kernel_rfl) (by kernel_rfl) (by kernel_rfl) (fun _ _ _ h => h) ⟨.inl ⟨by kernel_rfl, fun w => by go_simp⟩, fun w => rfl⟩ ?_
        refine wpAnyIn_ready (rs := [0]) (by kernel_rfl) (by simp) ?_
        refine AllReadyIn.cons rfl (fun K hK => ?_) AllReadyIn.nil
        go_simp
        refine hK _ _ ?_
        clear hK K
        refine wpAnyIn_ready (rs := [4]) (by kernel_rfl) (by simp) ?_
        refine AllReadyIn.cons rfl (fun K hK => ?_) AllReadyIn.nil
        go_simp
        refine ⟨trivial, ?_⟩
        gi_at_call 41
        refine (callsIn_wide.2 HP4.out).mono ?_
        rintro en w8 ⟨v8, rfl, hown, hfr⟩
        rw [HZ8.out] at hown
        obtain ⟨A8, c8a, rfl, g1, g2, _, g4, _⟩ := hown.form
        have HF8 := hide hfr
        have HP9 := hide (putU_any A8 z8 c8a w8.heap.size (Bs ++ enc mR) dd w8 HZ8.out g1 g2 (by omega) (Nat.le_refl _) g4 (by omega))
        have c8 : w8.cell? ⟨bl, 0, none⟩ = some (.int .i64 la) := cell_of_row _ _ 0 _ _ _ (hfr.blk HM7.out.l (fun h => h))
        clear hown hfr g1 g2 g4
        go_simp
        refine hK _ _ ?_
        clear hK K
        refine wpAnyIn_ready (rs := [9]) (by kernel_rfl) (by simp) ?_
        refine AllReadyIn.cons rfl (fun K hK => ?_) AllReadyIn.nil
        go_simp
        refine ⟨trivial, ?_⟩
        gi_at_call 41
        refine (callsIn_wide.2 HP9.out).mono ?_
        rintro en w9 ⟨v9, rfl, hown, hfr⟩
        rw [HZ9.out] at hown
        obtain ⟨A9, c9a, rfl, _⟩ := id hown.form
        have HO9 := hide hown
        have HF9 : Hid (Fr No w7 w9) := hide ((Fr.of_drewN (n := 1) HF8.out).tr hfr)
        have HSz9 : Hid (w7.heap.size ≤ w8.heap.size) := hide HF8.out.size
        have HS89 : Hid (w8.heap.size ≤ w9.heap.size) := hide hfr.size
        have hq9 := HF9.out.blk HQ7.out (fun h => h)
        have HQ9 := hide hq9
        have k9 : w9.cell? ⟨bo, 0, none⟩ = some (.slice Ao zo co) := cell_of_row _ _ 0 _ _ _ hq9
        have f9 : w9.frozen? ⟨bo, 0, none⟩ = false := frozen_of_row _ _ _ _ _ hq9
        clear hown hfr hq9
        go_simp
        refine hK _ _ ?_
        clear hK K
        refine wpAnyIn_ready (rs := [10]) (by kernel_rfl) (by simp) ?_
        refine AllReadyIn.cons rfl (fun K hK => ?_) AllReadyIn.nil
        go_simp
        refine hK _ _ ?_
        clear hK K
        refine wpAnyIn_done (by kernel_rfl) ?_ _
        go_simp
        clear k9 f9
        have hO9 := HO9.out
        have hs9 := HFr7.out.size
        have hs10 := HSz9.out
        have hq10 : (w9.setCell ⟨bo, 0, none⟩ (.slice A9 z9 c9a)).heap[bo]? = some (.cells #[.slice A9 z9 c9a] 25 (0, 0)) := by
          have := heap_setCell_same w9 bo 0 #[.slice Ao zo co] 25 (.slice A9 z9 c9a) HQ9.out
          simpa using this
        have fs1 : Fr (Is bo) w9 (w9.setCell ⟨bo, 0, none⟩ (.slice A9 z9 c9a)) := (Fr.refl (Is bo) w9).put 0 _
        have HX10 : Hid (Own (w9.setCell ⟨bo, 0, none⟩ (.slice A9 z9 c9a)) w8.heap.size 5 1 (.slice A9 z9 c9a) z9 (by8 (Bs ++ enc mR ++ enc dd))) := hide (hO9.off fs1 (off_is HQ9.out (by decide)))
        have HR10 := hide ((HO7.out.fr0 HF9.out).off fs1 (off_is HQ9.out (by decide)))
        have HFs1 := hide fs1
        have HQ10 := hide hq10
        obtain ⟨w10, hw10⟩ : ∃ W1, w9.setCell ⟨bo, 0, none⟩ (.slice A9 z9 c9a) = W1 := ⟨_, rfl⟩
        rw [hw10] at HX10 HR10 HFs1 HQ10 ⊢
        have k10 : w10.cell? ⟨bo, 0, none⟩ = some (.slice A9 z9 c9a) := cell_of_row _ _ 0 _ _ _ HQ10.out
        have HS10 := hide (Src.ofRd (P := Try.prog) (size := 1) w10 Try.underlying25 Ar mR cr (by8 R) (by rw [by8_length, HMR.out]; omega) (by omega) HR10.out.rd (by8_one _))
        obtain ⟨i0, hi, hz, hsz, hby⟩ := info_parts Try.info5
        have hz9b : z9 ≤ 20000000200 := by rw [← HZ9.out, List.length_append, HZ8.out]; have := (enc_len dd).2; omega
        have e1 : (z9 + mR) * 1 ≤ 140737488355328 := by omega
        have e2 : z9 + mR ≤ maxLen := by unfold maxLen; omega
        have e3 : w8.heap.size ≤ w10.heap.size := Nat.le_trans HS89.out HFs1.out.size
        clear hO9 fs1 hq10 hw10
        gi_wp2_with (gi_at_builtin; refine wpListIn_append_gen _ rfl (.tmp 39) (.tmp 40) 25 25 rfl w8.heap.size 5 i0 (.int .u8 0) 1 1 Try.underlying25 hi hz hsz hby rfl (.slice A9 z9 c9a) z9 (by8 (Bs ++ enc mR ++ enc dd)) rfl HX10.out _ mR (by8 R) rfl HS10.out e1 e2 e3 ?_; intro v11 w11 hown hfr hat; obtain ⟨A11, c11, rfl, _⟩ := id hown.form; have HO11 := hide hown; have HF11 := hide hfr; have hq11 := hfr.blk HQ10.out (fun e => HX10.out.ne_blk e HQ10.out (by decide)); have HQ11 := hide hq11; have k11 : w11.cell? ⟨bo, 0, none⟩ = some (.slice A9 z9 c9a) := cell_of_row _ _ 0 _ _ _ hq11; have fz11 : w11.frozen? ⟨bo, 0, none⟩ = false := frozen_of_row _ _ _ _ _ hq11; have hl9 := HF9.out.blk HM7.out.l (fun h => h); have hl10 := HFs1.out.blk hl9 (fun e => HB12.out.2.2.2.2 (Eq.symm e)); have hl11 := hfr.blk hl10 (fun e => HX10.out.ne_blk e hl10 (by decide)); have fs2 : Fr (Is bo) w11 (w11.setCell ⟨bo, 0, none⟩ (.slice A11 (z9 + mR) c11)) := (Fr.refl (Is bo) w11).put 0 _; have hl12 := fs2.blk hl11 (fun e => HB12.out.2.2.2.2 (Eq.symm e)); have HL12 := hide hl12; have k12 : (w11.setCell ⟨bo, 0, none⟩ (.slice A11 (z9 + mR) c11)).cell? ⟨bl, 0, none⟩ = some (.int .i64 la) := cell_of_row _ _ 0 _ _ _ hl12; have fz12 : (w11.setCell ⟨bo, 0, none⟩ (.slice A11 (z9 + mR) c11)).frozen? ⟨bl, 0, none⟩ = false := frozen_of_row _ _ _ _ _ hl12; clear hown hfr hat hq11 hl9 hl10 hl11 hl12 fs2)
        have hend := bw_end HM.out HFr7.out HF9.out HSz9.out HFs1.out HX10.out HF11.out HQ11.out HL12.out HO11.out HB12.out HSz5.out le
        refine ⟨hend.1, hend.2.1, ?_⟩
        dsimp only
        rw [show (pre ++ [j]).length = j + 1 by rw [List.length_append, HJ.out]; rfl, ahead_succ, HLe.out, bodP_succ, pieceP, HRR.out, HMR.out, HLe.out, HLa.out, HDd.out, ← List.append_assoc, ← List.append_assoc, ← List.append_assoc, HBs.out]
        exact hend.2.2 (by rw [List.length_append, HZ9.out, HMR.out])


theorem pbuild_any (A : Option Addr) (n c B : Nat) (l : List Po) (w : World) (hl : l.length = n) (hn : n ≤ c) (hc : c ≤ maxLen) (hB : B ≤ w.heap.size) (hr : RdPo w B A l) (hi : InI2 l) (hb : ∀ x ∈ l, x.2.length ≤ 140737488351232) :
    Calls Try.prog 11 #[.slice A n c] w (BuildQ w l) := callsIn_wide.1 (pbuild_in 8 (Nat.le_refl _) A n c B l w hl hn hc hB hr hi hb)
end Go.Proofs.Ythlbfnoahdjdeaa
