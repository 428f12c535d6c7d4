/- Several texts in one: Marks, DPre, PutU, PutT, TBuW. -/
import Derived.Test.YtcdhbdhhknlbaaaK7
import Derived.Deep.DeepCutAuto
namespace Go.Proofs.Ytcdhbdhhknlbaaa
set_option linter.unusedVariables false
set_option linter.unusedSimpArgs false
open Go.RowKit

def mkD (D : Nat) : Deferred := { target := .collected D, args := #[] }
theorem leave_marks {F : Fence} {n : Nat} {P : Program} {fn : Func} {tmps : Array Value} {R : Ending → World → Prop} {rest : List Deferred} {u : FrameMode} (hu : u ≠ .run) :
    ∀ (Ds : List Nat) (W : World), Ds.Nodup → (∀ D ∈ Ds, W.heap[D]? = some (.deferred (some []))) → (∀ W', Fr (fun k => k ∈ Ds) W W' → LeavesInM F n P fn tmps R rest u W') → LeavesInM F n P fn tmps R (Ds.map mkD ++ rest) u W
  | [], W, _, _, h => h W ((Fr.refl _ W))
  | D :: Ds, W, hn, hd, h => by
    refine ⟨hu, .inl ⟨D, _, rfl, run_takeDeferred (hd D List.mem_cons_self), ?_⟩⟩
    have f1 : Fr (fun k => k = D) W (W.putObj D (.deferred none)) := (Fr.of_grown (grownBy_putObj' W D (.deferred none))).mono (fun i _ e => (Option.some.inj e).symm)
    refine leave_marks hu Ds _ (List.nodup_cons.1 hn).2 (fun E hE => ?_) (fun W' f => h W' ?_)
    · exact f1.blk (hd E (List.mem_cons_of_mem _ hE)) (fun e => by
        have e : E = D := e
        subst e
        exact (List.nodup_cons.1 hn).1 hE)
    · exact (f1.mono (fun i _ e => by have e : i = D := e; subst e; exact List.mem_cons_self)).trans f (fun i _ hi => List.mem_cons_of_mem _ hi)
end Go.Proofs.Ytcdhbdhhknlbaaa
namespace Go.Proofs.Ytcdhbdhhknlbaaa
set_option linter.unusedVariables false
set_option linter.unusedSimpArgs false
open Go.RowKit
attribute [local go_sem] Oper.semAt_some

set_option maxRecDepth 100000 in
set_option maxHeartbeats 400000 in
theorem hasP0_any (X Y : ByteArray) (w : World) (hX : X.size ≤ maxLen) (hY : Y.size ≤ maxLen) : Calls Try.prog 79 #[.string X, .string Y] w (Ret (.bool (decide (X.toList.take Y.size = Y.toList))) w) := by
  unfold maxLen at hX hY
  by_cases hle : Y.size ≤ X.size
  · have d1 : decide ((Y.size : Int) ≤ (X.size : Int)) = true := decide_eq_true (by omega)
    have d1b : decide (Y.size ≤ X.size) = true := decide_eq_true hle
    have i4 : (Y.size : Int) ≤ (X.size : Int) := by omega
    have i5 : (0 : Int) ≤ (Y.size : Int) := by omega
    have d3 : ((X.extract 0 Y.size).toList == Y.toList) = decide (X.toList.take Y.size = Y.toList) := by
      rw [Lib.extract_toList, ← ByteArray.toList_eq, List.drop_zero, Nat.sub_zero]
      exact beq_dec _ _
    generalize decide (X.toList.take Y.size = Y.toList) = gb at d3 ⊢
    cases gb with
    | true =>
      go_enter Try.func79, Try.ntmps79
      go_wp2
      go_ret
      exact ⟨rfl, rfl⟩
    | false =>
      go_enter Try.func79, Try.ntmps79
      go_wp2
      go_ret
      exact ⟨rfl, rfl⟩
  · have d1 : decide ((Y.size : Int) ≤ (X.size : Int)) = false := decide_eq_false (by omega)
    have d1b : decide (Y.size ≤ X.size) = false := decide_eq_false hle
    have e : decide (X.toList.take Y.size = Y.toList) = false := decide_eq_false (fun h => hle (by
      have h2 := congrArg List.length h
      rw [List.length_take, ByteArray.toList_eq, ByteArray.toList_eq, Array.length_toList, Array.length_toList] at h2
      have h3 : X.data.size = X.size := rfl
      have h4 : Y.data.size = Y.size := rfl
      omega))
    rw [e]
    go_enter Try.func79, Try.ntmps79
    go_wp2
    go_ret
    exact ⟨rfl, rfl⟩
set_option maxRecDepth 100000 in
set_option maxHeartbeats 400000 in
theorem hasP_any (X Y : ByteArray) (w : World) (hX : X.size ≤ maxLen) (hY : Y.size ≤ maxLen) : Calls Try.prog 64 #[.string X, .string Y] w (Ret (.bool (decide (X.toList.take Y.size = Y.toList))) w) := by
  have H := hide (hasP0_any X Y w hX hY)
  generalize decide (X.toList.take Y.size = Y.toList) = gb at H ⊢
  go_enter Try.func64, Try.ntmps64
  go_wp2_with (go_at_call 79; refine H.out.mono ?_; rintro en w2 ⟨rfl, rfl⟩)
  go_ret
  exact ⟨rfl, rfl⟩

def PrePost (w : World) (l : List Tx) (s : Tx) (en : Ending) (w' : World) : Prop := en = .returned (.tuple #[.int .i64 (lowT l s : Nat), .int .i64 (preT l s : Nat)]) ∧ Fr No w w'

set_option maxRecDepth 100000 in
set_option maxHeartbeats 4000000 in
theorem pprefix_in (fr : Nat) (hf4 : 4 ≤ fr) (B : Nat) (p : Option Addr) (l : List Tx) (at_ : List Nat) (s : Tx) (w : World) (h : DictP w B p l at_) (hs : s.length ≤ maxLen) :
    CallsIn Fence.wide fr Try.prog 35 #[.pointer p, .string ⟨s.toArray⟩] w (PrePost w l s) := by
  have HLo := hide (fun W hW => plower_any B p l at_ s W hW)
  have H := hide h
  obtain ⟨Y, hY⟩ : ∃ Y : ByteArray, (⟨s.toArray⟩ : ByteArray) = Y := ⟨_, rfl⟩
  have HY : Hid (Y.toList = s) := hide (by rw [← hY, tx_list])
  have HYs : Hid (Y.size = s.length) := hide (by rw [← hY, tx_size])
  rw [hY] at HLo ⊢
  obtain ⟨a, hA⟩ : ∃ a, lowT l s = a := ⟨_, rfl⟩
  have HA := hide hA
  have hal : a ≤ l.length := by rw [← hA]; exact lowT_le l s
  unfold PrePost
  rw [hA] at HLo ⊢
  have HE0 := hide (fun W (t : Int) => eachD_any p (a : Int) t W)
  have HLe := hide (fun W hW => plen_any B p l at_ W hW)
  have HSl := hide hs
  clear h hY hA hs
  refine callsIn_of_wp_marks Try.func35 rfl trivial ?_ rfl
  simp only [Try.ntmps35, List.size_toArray, List.length_cons, List.length_nil, Nat.reduceAdd, Nat.reduceSub, Array.replicate_succ, Array.replicate_zero, List.push_toArray, List.append_toArray, List.nil_append, List.cons_append]
  refine wpIn_wide.2 ?_
  obtain ⟨w1, hw1⟩ : ∃ W, W = w.alloc (.cells #[.string Y] 9) := ⟨_, rfl⟩
  have HF1 : Hid (Fr No w w1) := hide (by rw [hw1]; exact (Fr.refl No w).alloc _)
  have HB1 : Hid (w1.heap[w.heap.size]? = some (.cells #[.string Y] 9 (0, 0))) := hide (by rw [hw1]; exact heap_alloc_new w _)
  have HW1 := hide hw1
  clear hw1
  go_upto_region 1 with (fail)
  rw [← HW1.out]
  have k1 : w1.cell? ⟨w.heap.size, 0, none⟩ = some (.string Y) := cell_of_row _ _ 0 _ _ _ HB1.out
  go_wp2_with (fail)
  refine (HLo.out w1 (H.out.fr0 HF1.out)).mono ?_
  rintro en w2 ⟨rfl, hfr⟩
  have HF2 : Hid (Fr No w w2) := hide (HF1.out.tr hfr)
  have HB2 : Hid (w2.heap[w.heap.size]? = some (.cells #[.string Y] 9 (0, 0))) := hide (hfr.blk HB1.out (fun h => h))
  obtain ⟨w3, hw3⟩ : ∃ W, W = w2.alloc (.cells #[.int .i64 (a : Nat)] 3) := ⟨_, rfl⟩
  have HF23 : Hid (Fr No w2 w3) := hide (by rw [hw3]; exact (Fr.refl No w2).alloc _)
  have HF3 : Hid (Fr No w w3) := hide (HF2.out.tr HF23.out)
  have HB3 : Hid (w3.heap[w.heap.size]? = some (.cells #[.string Y] 9 (0, 0))) := hide (HF23.out.blk HB2.out (fun h => h))
  obtain ⟨TB, hTB⟩ : ∃ TB, TB = w2.heap.size := ⟨_, rfl⟩
  have HT3 : Hid (w3.heap[TB]? = some (.cells #[.int .i64 (a : Nat)] 3 (0, 0))) := hide (by rw [hw3, hTB]; exact heap_alloc_new w2 _)
  have HTl : Hid (w.heap.size < TB) := hide (by rw [hTB]; exact Nat.lt_of_lt_of_le (Array.getElem?_eq_some_iff.1 HB1.out).1 hfr.size)
  have HW3 := hide hw3
  have HTB := hide hTB
  clear hw3 hTB hfr k1
  go_upto_region 3 with (fail)
  rw [← HW3.out, ← HTB.out]
  go_wp2_with (first
    | (go_at_call 12; refine (HE0.out w3 _).mono ?_; rintro en w4 ⟨b1, b2, b3, rfl, hbox, hfr⟩; have HBx := hide hbox; have HF34 := hide hfr; clear hbox hfr)
    | (go_at_call 14; refine (HLe.out w3 (H.out.fr0 HF3.out)).mono ?_; rintro en w5 ⟨rfl, rfl⟩)
    | fail)
  obtain ⟨n, hn⟩ : ∃ n, n = l.length := ⟨_, rfl⟩
  have HN := hide hn
  have HF4 : Hid (Fr No w w4) := hide (HF3.out.tr HF34.out)
  have HSq := hide (eachD_in (fr - 1) (by omega) b1 b2 b3 B (a : Int) (l.length : Nat) p l at_ a (n - a) w4 HBx.out (H.out.fr0 HF4.out) (by omega) (by rw [hn]; omega))
  have HEg := hide (enters_of Try.func47 (by kernel_rfl) rfl)
  have HB4 : Hid (w4.heap[w.heap.size]? = some (.cells #[.string Y] 9 (0, 0))) := hide (HF34.out.blk HB3.out (fun h => h))
  have HT4 : Hid (w4.heap[TB]? = some (.cells #[.int .i64 (a : Nat)] 3 (0, 0))) := hide (HF34.out.blk HT3.out (fun h => h))
  have hn2 : n ≤ 1048576 := by rw [hn]; exact H.out.n_le
  have hs4 : w.heap.size + 1 ≤ w4.heap.size := (Array.getElem?_eq_some_iff.1 HB4.out).1
  have ht4 : TB + 1 ≤ w4.heap.size := (Array.getElem?_eq_some_iff.1 HT4.out).1
  rw [← hn]
  rw [← hn] at hal
  clear hn
  refine (wpIn_wide (n := fr)).1 ?_
  refine wpIn_rangeFunc_mem (F := Fence.wide) rfl (by omega) (gf := 47) (lb := #[.pointer (some ⟨b1, 0, none⟩), .pointer (some ⟨b2, 0, none⟩), .pointer (some ⟨b3, 0, none⟩)]) rfl trivial HEg.out HSq.out KpI.t KpI.b (fun x W l o o' h hl ho => h) (Fr.refl _ _) (fun x => rfl)
    (fun pre W => Fr No w W ∧ W.heap[w.heap.size]? = some (.cells #[.string Y] 9 (0, 0)) ∧ W.heap[TB]? = some (.cells #[.int .i64 ((a + pre.length : Nat) : Int)] 3 (0, 0)) ∧ ∀ x ∈ pre, x.2.take s.length = s)
    (fun cc pre W => cc = .exit 0 ∧ ∃ pre0 x, pre = pre0 ++ [x] ∧ (∀ y ∈ pre0, y.2.take s.length = s) ∧ x.2.take s.length ≠ s ∧ W.heap[TB]? = some (.cells #[.int .i64 ((a + pre0.length : Nat) : Int)] 3 (0, 0)) ∧ Fr No w W) ?hI ?hIx ?h0
    (fun x => { tmps := #[.pointer p, .string Y, undef, .pointer (some ⟨w.heap.size, 0, none⟩), .int .i64 0, .int .i64 0, .int .i64 ((a : Nat) : Int), .pointer (some ⟨TB, 0, none⟩), undef, sv x.2, .pointer p, .string Y, .int .i64 ((a : Nat) : Int), .int .i64 ((a : Nat) : Int), .pointer p, .int .i64 ((a : Nat) : Int), .pointer p, .int .i64 ((n : Nat) : Int), .func (.func 47) #[] #[.pointer (some ⟨b1, 0, none⟩), .pointer (some ⟨b2, 0, none⟩), .pointer (some ⟨b3, 0, none⟩)], .int .i64 ((x.1 : Nat) : Int), sv x.2, undef, undef, undef, undef, undef, undef, undef, undef], defers := [] }) ?assign ?body ?done ?stop ?panic
  case hI =>
    rintro s A1' A2' ⟨z1, z2, z3, z4⟩ ff
    exact ⟨z1.trans ff (fun j hj hl => by have := hl.1; omega), ff.blk z2 (fun hl => by have := hl.1; omega), ff.blk z3 (fun hl => by have := hl.1; omega), z4⟩
  case hIx =>
    rintro cc s A1' A2' ⟨z0, pre0, x, z1, z2, z3, z4, z5⟩ ff
    exact ⟨z0, pre0, x, z1, z2, z3, ff.blk z4 (fun hl => by have := hl.1; omega), z5.trans ff (fun j hj hl => by have := hl.1; omega)⟩
  case h0 => exact ⟨HF4.out, HB4.out, HT4.out, (fun x hx => by cases hx)⟩
  case assign =>
    intro l x W K hK
    gi_wp2
    simpa [encI] using hK
  case body =>
    rintro lp pre x W ⟨z1, z2, z3, z4⟩ hgx hpl
    have hf5 : 1 ≤ fr - 1 - 1 := by omega
    have HZ1 := hide z1
    have HZ2 := hide z2
    have HZ3 := hide z3
    have HZ4 := hide z4
    obtain ⟨X, hX⟩ : ∃ X : ByteArray, (⟨x.2.toArray⟩ : ByteArray) = X := ⟨_, rfl⟩
    have HX : Hid (X.toList = x.2) := hide (by rw [← hX, tx_list])
    have hXs : X.size ≤ 4096 := by rw [← hX, tx_size]; exact hgx.1
    have HPf := hide (hasP_any X Y W (by unfold maxLen; omega) (by rw [HYs.out]; exact HSl.out))
    have u1 : W.cell? ⟨w.heap.size, 0, none⟩ = some (.string Y) := cell_of_row _ _ 0 _ _ _ z2
    have u2 : W.cell? ⟨TB, 0, none⟩ = some (.int .i64 ((a + pre.length : Nat) : Int)) := cell_of_row _ _ 0 _ _ _ z3
    have u3 : W.frozen? ⟨TB, 0, none⟩ = false := frozen_of_row _ _ _ _ _ z3
    obtain ⟨k, hk⟩ : ∃ k, a + pre.length = k := ⟨_, rfl⟩
    have hkb : k ≤ 1048576 := by omega
    have HKk := hide hk
    rw [hk] at u2
    have e1 : sv x.2 = .string X := by rw [sv, hX]
    rw [e1]
    rw [HX.out, HYs.out, HY.out] at HPf
    have i1 : (0 : Int) ≤ (k : Int) := by omega
    have i2 : (k : Int) ≤ 1048576 := by omega
    clear z1 z2 z3 z4 hgx hX hk e1 hpl
    by_cases hp : x.2.take s.length = s
    · rw [decide_eq_true hp] at HPf
      have HPp := hide hp
      clear hp
      gi_wp2_with (refine ⟨trivial, ?_⟩; gi_at_call 64; refine (CallsIn.inRound lp (callsIn_wide.2 HPf.out)).mono ?_; rintro en w2 ⟨rfl, rfl⟩)
      have f1 : Fr (Is TB) W (W.setCell ⟨TB, 0, none⟩ (.int .i64 ((k : Int) + 1))) := (Fr.refl (Is TB) W).put 0 _
      have r1 : (W.setCell ⟨TB, 0, none⟩ (.int .i64 ((k : Int) + 1))).heap[TB]? = some (.cells #[.int .i64 ((k : Int) + 1)] 3 (0, 0)) := by
        have := heap_setCell_same W TB 0 _ 3 (.int .i64 ((k : Int) + 1)) HZ3.out
        simpa using this
      refine ⟨⟨f1.size, fun j o hj hk _ => f1.blk hk (fun e => by have e : j = TB := e; omega)⟩, f1.mono (fun i _ e => ?_), HZ1.out.trans f1 (fun j hj e => by have e : j = TB := e; have := HTl.out; omega), f1.blk HZ2.out (fun e => by have e : w.heap.size = TB := e; have := HTl.out; omega), ?_, fun y hy => ?_⟩
      · have e : i = TB := e
        subst e
        intro cs t fz hk
        rw [HZ3.out] at hk
        injection hk with hk
        injection hk with _ hk _
        exact hk.symm
      · rw [r1, List.length_append, ← Nat.add_assoc, HKk.out]
        rfl
      · rcases List.mem_append.1 hy with hy | hy
        · exact HZ4.out y hy
        · rw [List.mem_singleton.1 hy]; exact HPp.out
    · rw [decide_eq_false hp] at HPf
      have HPp := hide hp
      clear hp
      gi_wp2_with (refine ⟨trivial, ?_⟩; gi_at_call 64; refine (CallsIn.inRound lp (callsIn_wide.2 HPf.out)).mono ?_; rintro en w2 ⟨rfl, rfl⟩)
      exact ⟨KeepsFrom.refl _ _, rfl, pre, x, rfl, HZ4.out, HPp.out, HZ3.out, HZ1.out⟩
  case panic => exact fun D pre W _ hPn _ _ => hPn.elim
  case done =>
    rintro D xs W hD rfl ⟨z1, z2, z3, z4⟩ hK
    rw [ordsT_len, show a + (n - a) = n by omega] at z3
    have HPq : Hid (preT l s = n) := hide (by
      unfold preT
      rw [HA.out]
      refine pre_is _ a rfl hal (by rw [HN.out]; exact Nat.le_refl _) (fun j h1 h2 => ?_) (fun h => by rw [← HN.out] at h; exact absurd h (Nat.lt_irrefl _))
      have hm : (j, l.getD j []) ∈ ordsT l a (n - a) := List.mem_map.2 ⟨j - a, List.mem_range.2 (by omega), by rw [show a + (j - a) = j by omega]⟩
      exact z4 _ hm)
    have c1 : W.cell? ⟨TB, 0, none⟩ = some (.int .i64 ((n : Nat) : Int)) := cell_of_row _ _ 0 _ _ _ z3
    have HZ1 := hide z1
    have HKd := hide hK
    clear z1 z2 z3 z4 hK
    gi_wp2
    go_wp2
    go_quiet (fail)
    go_wp2
    show LeavesInM Fence.wide fr Try.prog Try.f35 _ _ ([D].map mkD ++ []) .returning _
    refine leave_marks (by simp) [D] _ (by simp) (fun E hE => by rw [List.mem_singleton.1 hE]; exact HKd.out) fun W' ff => ?_
    have hF' : Fr No w W' := (HZ1.out.drewN nq).trans ff (fun j hj hl => by have := List.mem_singleton.1 hl; omega)
    show LeavesIn _ _ _ _ _ _ _ _ _
    rw [HPq.out]
    exact ⟨_, results_tmp2 (fn := Try.f35) rfl _ _ _, rfl, hF'⟩
  case stop =>
    rintro D cc pre W hD hSp ⟨rfl, pre0, x, rfl, z2, z3, z4, z5⟩ hK
    have HPq : Hid (preT l s = a + pre0.length) := hide (by
      obtain ⟨⟨r, hr⟩, _⟩ := hSp
      have hlen := congrArg List.length hr
      rw [List.length_append, List.length_append, ordsT_len, List.length_singleton] at hlen
      have hat : ∀ j, (hj : j < (pre0 ++ [x]).length) → (pre0 ++ [x])[j] = (a + j, l.getD (a + j) []) := fun j hj => by
        have h1 : (ordsT l a (n - a))[j]? = some ((pre0 ++ [x])[j]) := by
          rw [← hr, List.getElem?_append_left hj, List.getElem?_eq_getElem hj]
        have hj2 : j < n - a := by simp at hj; omega
        simp only [ordsT, List.getElem?_map, List.getElem?_range hj2, Option.map_some, Option.some.injEq] at h1
        exact h1.symm
      unfold preT
      rw [HA.out]
      refine pre_is _ a rfl (by omega) (by rw [← HN.out]; omega) (fun j h1 h2 => ?_) (fun h => ?_)
      · have h3 := hat (j - a) (by simp; omega)
        rw [List.getElem_append_left (by omega)] at h3
        have h4 := z2 _ (List.getElem_mem (show j - a < pre0.length by omega))
        rw [h3, show a + (j - a) = j by omega] at h4
        exact h4
      · have h3 := hat pre0.length (by simp)
        rw [List.getElem_append_right (Nat.le_refl _)] at h3
        simp only [Nat.sub_self, List.getElem_cons_zero] at h3
        rw [h3] at z3
        exact z3)
    obtain ⟨k, hk⟩ : ∃ k, a + pre0.length = k := ⟨_, rfl⟩
    rw [hk] at z4 HPq
    have c1 : W.cell? ⟨TB, 0, none⟩ = some (.int .i64 ((k : Nat) : Int)) := cell_of_row _ _ 0 _ _ _ z4
    have HZ1 := hide z5
    have HKd := hide hK
    clear z2 z3 z4 z5 hK hk hSp
    gi_wp2
    go_wp2
    go_quiet (fail)
    go_wp2
    show LeavesInM Fence.wide fr Try.prog Try.f35 _ _ ([D].map mkD ++ []) .returning _
    refine leave_marks (by simp) [D] _ (by simp) (fun E hE => by rw [List.mem_singleton.1 hE]; exact HKd.out) fun W' ff => ?_
    have hF' : Fr No w W' := (HZ1.out.drewN nq).trans ff (fun j hj hl => by have := List.mem_singleton.1 hl; omega)
    show LeavesIn _ _ _ _ _ _ _ _ _
    rw [HPq.out]
    exact ⟨_, results_tmp2 (fn := Try.f35) rfl _ _ _, rfl, hF'⟩
theorem pprefix_any (B : Nat) (p : Option Addr) (l : List Tx) (at_ : List Nat) (s : Tx) (w : World) (h : DictP w B p l at_) (hs : s.length ≤ maxLen) :
    Calls Try.prog 35 #[.pointer p, .string ⟨s.toArray⟩] w (PrePost w l s) := callsIn_wide.1 (pprefix_in 4 (Nat.le_refl _) B p l at_ s w h hs)
end Go.Proofs.Ytcdhbdhhknlbaaa
namespace Go.Proofs.Ytcdhbdhhknlbaaa
set_option linter.unusedVariables false
set_option linter.unusedSimpArgs false
open Go.RowKit

set_option maxHeartbeats 400000 in
theorem formU_any (u : Int) (w : World) : Calls Try.prog 73 #[.int .u64 u] w (Ret (.int .u64 u) w) := by
  go_enter Try.func73, Try.ntmps73
  go_wp2
  go_ret
  exact ⟨rfl, rfl⟩

set_option maxRecDepth 100000 in
set_option maxHeartbeats 1000000 in
theorem putU_loop (A : Option Addr) (n c B : Nat) (bs : List UInt8) (u : Nat) (x : Int) (w : World) (hl : bs.length = n) (hn : n ≤ c) (hc : c ≤ maxLen) (hb : n ≤ 140737488350000) (hB : B ≤ w.heap.size) (hr : Rd w B A (by8 bs)) (hu : u < 18446744073709551616)
    (hform : ∀ W, Calls Try.prog 73 #[.int .u64 x] W (Ret (.int .u64 u) W)) :
    Calls Try.prog 72 #[.slice A n c, .int .u64 x, .func (.func 73) #[] #[]] w (GivesB w (bs ++ enc u)) := by
  have H := hide (clone_any A n c B bs w hl hn hc (by omega) hB hr)
  have HFo := hide hform
  have HL := hide hl
  clear hr hl hform
  obtain ⟨i0, hi, hz, hsz, hby⟩ := info_parts Try.info5
  go_enter Try.func72, Try.ntmps72
  go_wp2_with (first | (go_at_call 45; refine H.out.mono ?_; rintro en w1 ⟨v1, rfl, hown, hfr⟩; have HO := hide hown; have HF := hide hfr; clear hown hfr) | (go_at_call 73; refine (HFo.out _).mono ?_; rintro en w2 ⟨rfl, rfl⟩))
  clear H HFo
  go_loopw [7, 8] (fun v y wr => ∃ (f k : Nat) (done : List UInt8), y = .int .u64 (k : Nat) ∧ Hid (Own wr w.heap.size 5 1 v done.length (by8 done)) ∧ Hid (done ++ encF f k = bs ++ enc u) ∧ Hid (Fr No w wr) ∧ Hid (f ≤ 9 ∧ done.length ≤ n + 9 - f ∧ k * 2 ^ (7 * (9 - f)) < 18446744073709551616)) (fun _ y _ => (intOf y).toNat)
  case atStart => exact ⟨9, u, bs, rfl, HO, hide rfl, HF, hide ⟨Nat.le_refl _, by rw [HL.out]; omega, by simpa using hu⟩⟩
  case round =>
    obtain ⟨f, k, done, rfl, HOw, HE, HFr, HB⟩ := hrel
    clear HO HF HL
    obtain ⟨hf9, hdl, hk⟩ := HB.out
    have hgw := HFr.out.size
    by_cases hbig : 127 < k
    · obtain ⟨f', rfl⟩ : ∃ f', f = f' + 1 := by
        cases f with
        | zero => exfalso; have e : (2 : Nat) ^ (7 * (9 - 0)) = 9223372036854775808 := by decide
                  rw [e] at hk; omega
        | succ f' => exact ⟨f', rfl⟩
      have HK := hide hk; clear hk
      have ho := or_128 k
      have HD := hide (show encF (f' + 1) k = UInt8.ofNat (k % 128 + 128) :: encF f' (k / 128) by rw [encF, if_pos hbig])
      generalize UInt8.ofNat (k % 128 + 128) = b at ho HD
      have HS := hide (Src.one (P := Try.prog) wr (e := 5) Try.underlying24 (.int .u8 b.toNat) rfl)
      have HOw' := hide (HOw.out.fr0 ((Fr.refl No wr).alloc (.cells #[.int .u8 b.toNat] 5)))
      have b1 : (done.length + 1) * 1 ≤ 140737488355328 := by omega
      have b2 : done.length + 1 ≤ maxLen := by unfold maxLen; omega
      have b3 : w.heap.size ≤ (wr.alloc (.cells #[.int .u8 b.toNat] 5)).heap.size := by simp; omega
      have HR := hide (show Own wr w.heap.size 5 1 u7 done.length (by8 done) → ∀ k, u7.ownBlock = some k → w.heap.size ≤ k from fun h k hk => (h.lt k hk).1)
      go_wp2_with (at_builtin; refine wpList_append_gen _ rfl (.tmp 18) (.tmp 22) 24 24 rfl w.heap.size 5 i0 (.int .u8 0) 1 1 Try.underlying24 hi hz hsz hby rfl u7 done.length (by8 done) rfl HOw'.out _ 1 [.int .u8 b.toNat] rfl HS.out b1 b2 b3 ?_; intro v' w' hown hfr hat; have HOn := hide hown; have HFn := hide hfr; clear hown hfr hat)
      go_roundw
      case rel =>
        refine ⟨f', k / 128, done ++ [b], by go_num, hide (by simpa [by8] using HOn.out), hide ?_, hide ((HFr.out.alloc _).own HFn.out (fun g hg => .inl (HOw.out.lt g hg).1)), hide ⟨by omega, by simp; omega, ?_⟩⟩
        · rw [← HE.out, HD.out]; simp
        · have e : 7 * (9 - f') = 7 * ((9 - (f' + 1)) + 1) := by omega
          rw [e, pow7, ← Nat.mul_assoc]
          exact Nat.lt_of_le_of_lt (Nat.mul_le_mul_right _ (by omega)) HK.out
      case measure => simp [intOf]; omega
    · obtain ⟨b, rfl⟩ : ∃ b : UInt8, k = b.toNat := ⟨UInt8.ofNat k, (ofNat_toNat (by omega)).symm⟩
      have HD := hide (show encF f b.toNat = [b] by cases f with
        | zero => simp [encF]
        | succ f => rw [encF, if_neg hbig]; simp)
      clear hk
      have HS := hide (Src.one (P := Try.prog) wr (e := 5) Try.underlying24 (.int .u8 b.toNat) rfl)
      have HOw' := hide (HOw.out.fr0 ((Fr.refl No wr).alloc (.cells #[.int .u8 b.toNat] 5)))
      have b1 : (done.length + 1) * 1 ≤ 140737488355328 := by omega
      have b2 : done.length + 1 ≤ maxLen := by unfold maxLen; omega
      have b3 : w.heap.size ≤ (wr.alloc (.cells #[.int .u8 b.toNat] 5)).heap.size := by simp; omega
      go_wp2_with (first | (at_builtin; refine wpList_append_gen _ rfl (.tmp 24) (.tmp 27) 24 24 rfl w.heap.size 5 i0 (.int .u8 0) 1 1 Try.underlying24 hi hz hsz hby rfl u7 done.length (by8 done) rfl HOw'.out _ 1 [.int .u8 b.toNat] rfl HS.out b1 b2 b3 ?_; intro v' w' hown hfr hat; obtain ⟨A1, c1, rfl, hc1, hc2, _⟩ := hown.form; have HOn := hide hown; have HFn := hide hfr; clear hown hfr hat) | (go_at_call 52; refine (clip_any _ _ _ _ hc1 hc2).mono ?_; rintro en w2 ⟨rfl, rfl⟩))
      go_ret
      refine ⟨_, rfl, ?_, (HFr.out.alloc _).own HFn.out (fun g hg => .inl (HOw.out.lt g hg).1)⟩
      rw [← HE.out, HD.out, by8_append, List.length_append]
      exact HOn.out.clip

theorem putU_any (A : Option Addr) (n c B : Nat) (bs : List UInt8) (u : Nat) (w : World) (hl : bs.length = n) (hn : n ≤ c) (hc : c ≤ maxLen) (hb : n ≤ 140737488350000) (hB : B ≤ w.heap.size) (hr : Rd w B A (by8 bs)) (hu : u < 18446744073709551616) :
    Calls Try.prog 49 #[.slice A n c, .int .u64 u] w (GivesB w (bs ++ enc u)) := by
  have H := hide (putU_loop A n c B bs u u w hl hn hc hb hB hr hu (fun W => formU_any _ W))
  clear hr hl
  go_enter Try.func49, Try.ntmps49
  go_wp2_with (go_at_call 72; refine H.out.mono ?_; rintro en w1 ⟨v1, rfl, hown, hfr⟩; have HO := hide hown; have HF := hide hfr; clear hown hfr)
  go_ret
  exact ⟨_, rfl, HO.out, HF.out⟩

end Go.Proofs.Ytcdhbdhhknlbaaa
namespace Go.Proofs.Ytcdhbdhhknlbaaa
set_option linter.unusedVariables false
set_option linter.unusedSimpArgs false
open Go.RowKit

set_option maxRecDepth 100000 in
set_option maxHeartbeats 800000 in
theorem putText_any (A : Option Addr) (n c B : Nat) (bs : List UInt8) (s : ByteArray) (w : World) (hl : bs.length = n) (hn : n ≤ c) (hc : c ≤ maxLen) (hb : n + s.size ≤ 140737488350000) (hB : B ≤ w.heap.size) (hr : Rd w B A (by8 bs)) :
    Calls Try.prog 50 #[.slice A n c, .string s] w (GivesB w (bs ++ enc s.size ++ s.data.toList)) := by
  have H := hide (putU_any A n c B bs s.size w hl hn hc (by omega) hB hr (by omega))
  obtain ⟨i0, hi, hz, hsz, hby⟩ := info_parts Try.info5
  have hlen : (bs ++ enc s.size).length ≤ n + 10 := by
    have := (encF_len 9 s.size).2
    rw [List.length_append, hl]
    unfold enc
    omega
  generalize bs ++ enc s.size = xs at H hlen
  have hs : s.size ≤ 9223372036854775807 := by omega
  clear hr hl hn hc
  generalize hm : s.size = m at *
  have HS := fun W => Src.ofString (P := Try.prog) (w := W) Try.underlying9 s
  rw [hm, byteCells_by8] at HS
  have HS' := hide HS
  have hsl : s.data.toList.length = m := by rw [← hm, Array.length_toList]; rfl
  generalize s.data.toList = t at HS' hsl
  have b1 : (xs.length + m) * 1 ≤ 140737488355328 := by omega
  have b2 : xs.length + m ≤ maxLen := by unfold maxLen; omega
  clear HS
  go_enter Try.func50, Try.ntmps50
  go_wp2_with (first | (go_at_call 49; refine H.out.mono ?_; rintro en w1 ⟨v1, rfl, hown, hfr⟩; have HO := hide hown; have HF := hide hfr; have b3 := hfr.size; clear hown hfr) | (at_builtin; refine wpList_append_gen _ rfl (.tmp 9) (.tmp 10) 24 9 rfl w.heap.size 5 i0 (.int .u8 0) 1 1 Try.underlying24 hi hz hsz hby rfl v1 xs.length (by8 xs) rfl HO.out _ m (by8 t) rfl (HS'.out w1) b1 b2 b3 ?_; intro v' w' hown hfr hat; obtain ⟨A1, c1, rfl, hc1, hc2, _⟩ := hown.form; have HOn := hide hown; have HFn := hide hfr; clear hown hfr hat) | (go_at_call 52; refine (clip_any _ _ _ _ hc1 hc2).mono ?_; rintro en w2 ⟨rfl, rfl⟩))
  go_ret
  refine ⟨_, rfl, ?_, HF.out.own HFn.out (fun g hg => .inl (HO.out.lt g hg).1)⟩
  rw [by8_append, List.length_append, hsl]
  exact HOn.out.clip

end Go.Proofs.Ytcdhbdhhknlbaaa
namespace Go.Proofs.Ytcdhbdhhknlbaaa
set_option linter.unusedVariables false
set_option linter.unusedSimpArgs false
open Go.RowKit

def BuildP (w : World) (l : List Tx) (at_ : List Nat) (en : Ending) (w' : World) : Prop :=
  Fr No w w' ∧ ((termsOk l at_ ∧ ∃ A m, m = (dictB l at_).length ∧ en = .returned (.tuple #[.slice A m m, .int .i64 0]) ∧ Own w' w.heap.size 5 1 (.slice A m m) m (by8 (dictB l at_))) ∨
    (¬ termsOk l at_ ∧ en = .returned (.tuple #[.slice none 0 0, .int .i64 1])))

set_option maxRecDepth 100000 in
set_option maxHeartbeats 4000000 in
theorem tbuild_any (A A2 : Option Addr) (n n2 c c2 B : Nat) (l : List Tx) (at_ : List Nat) (w : World) (hl : l.length = n) (hn : n ≤ c) (hc : c ≤ maxLen) (hl2 : at_.length = n2) (hn2 : n2 ≤ c2) (hc2 : c2 ≤ maxLen) (hB : B ≤ w.heap.size)
    (hr : Rd w B A (svs l)) (hr2 : Rd w B A2 (un at_)) (ht : ∀ t ∈ l, t.length ≤ maxLen) (hu : U64s at_) :
    Calls Try.prog 13 #[.slice A n c, .slice A2 n2 c2] w (BuildP w l at_) := by
  have HL := hide hl
  have HL2 := hide hl2
  have HR := hide hr
  have HR2 := hide hr2
  have HT := hide ht
  have HU := hide hu
  have HBz := hide hB
  unfold maxLen at hc hc2
  clear hl hl2 hr hr2 ht hu hB
  by_cases h1 : 1048576 < n
  · have HNo : Hid (¬ termsOk l at_) := hide (fun h => by have h2 := h.1; rw [HL.out] at h2; omega)
    have d1 : decide ((1048576 : Int) < n) = true := decide_eq_true (by omega)
    go_enter Try.func13, Try.ntmps13
    go_wp2_with (fail)
    go_ret2
    exact ⟨Fr.refl _ _, .inr ⟨HNo.out, rfl⟩⟩
  by_cases h2 : n = n2
  case neg =>
    have HNo : Hid (¬ termsOk l at_) := hide (fun h => by have h3 := h.2.1; rw [HL.out, HL2.out] at h3; exact h2 h3)
    have d1 : decide ((1048576 : Int) < n) = false := decide_eq_false (by omega)
    have d2 : ((n : Int) != n2) = true := by simp; omega
    go_enter Try.func13, Try.ntmps13
    go_wp2_with (fail)
    go_ret2
    exact ⟨Fr.refl _ _, .inr ⟨HNo.out, rfl⟩⟩
  case pos =>
  subst h2
  have d1 : decide ((1048576 : Int) < n) = false := decide_eq_false (by omega)
  have d2 : ((n : Int) != n) = false := by simp
  go_enter Try.func13, Try.ntmps13
  go_wp2_with (fail)
  go_loopw [28] (fun i wr => ∃ k : Nat, k ≤ n ∧ i = .int .i64 k ∧ wr = w ∧ Hid (∀ j, j < k → (l.getD j []).length ≤ 4096) ∧ Hid (∀ j, 0 < j → j < k → l.getD (j - 1) [] < l.getD j [])) (fun i _ => n - (intOf i).toNat)
  case atStart => exact ⟨0, by omega, rfl, rfl, hide (fun j hj => by omega), hide (fun j h hj => by omega)⟩
  case round =>
    obtain ⟨k, hk, rfl, rfl, HJ1, HJ2⟩ := hrel
    by_cases hlt : k < n
    · have hkl : k < l.length := by rw [HL.out]; exact hlt
      obtain ⟨ad, hA, hab, kc⟩ := HR.out k _ (svs_get hkl)
      subst hA
      have hXl := HT.out _ (getD_mem hkl)
      unfold maxLen at hXl
      obtain ⟨X, hX⟩ : ∃ X : ByteArray, (⟨(l.getD k []).toArray⟩ : ByteArray) = X := ⟨_, rfl⟩
      have HXL : Hid (X.toList = l.getD k []) := hide (by rw [← hX, tx_list])
      have HXS : Hid (X.size = (l.getD k []).length) := hide (by rw [← hX, tx_size])
      have hXs : X.size ≤ 9223372036854775807 := by rw [HXS.out]; omega
      rw [sv, hX] at kc
      have i1 : (0 : Int) ≤ (k : Int) := by omega
      have i2 : (k : Int) < (n : Int) := by omega
      clear hX hXl hab
      by_cases h4 : 4096 < X.size
      · have HNo : Hid (¬ termsOk l at_) := hide (fun h => by have := h.2.2.1 _ (getD_mem hkl); rw [← HXS.out] at this; omega)
        have e1 : decide ((4096 : Int) < (X.size : Int)) = true := decide_eq_true (by omega)
        clear hkl
        go_wp2_with (fail)
        go_ret2
        exact ⟨Fr.refl _ _, .inr ⟨HNo.out, rfl⟩⟩
      · have e1 : decide ((4096 : Int) < (X.size : Int)) = false := decide_eq_false (by omega)
        have HJ1' : Hid (∀ j, j < k + 1 → (l.getD j []).length ≤ 4096) := hide (fun j hj => by
          by_cases e : j = k
          · rw [e, ← HXS.out]; omega
          · exact HJ1.out j (by omega))
        by_cases h0 : k = 0
        · have HJ2' : Hid (∀ j, 0 < j → j < k + 1 → l.getD (j - 1) [] < l.getD j []) := hide (fun j h hj => by omega)
          have e2 : decide ((0 : Int) < (k : Int)) = false := decide_eq_false (by omega)
          have e2b : decide (0 < k) = false := decide_eq_false (by omega)
          clear hkl h0
          go_wp2_with (fail)
          go_roundw
          case rel => exact ⟨k + 1, by omega, by go_num, trivial, HJ1', HJ2'⟩
          case measure => simp [intOf]; omega
        · obtain ⟨q, hq⟩ : ∃ q, k = q + 1 := ⟨k - 1, by omega⟩
          have HQ := hide hq
          have hql : q < l.length := by omega
          obtain ⟨ad', hA, hab, kq⟩ := HR.out q _ (svs_get hql)
          injection hA with hA
          subst hA
          obtain ⟨P, hP⟩ : ∃ P : ByteArray, (⟨(l.getD q []).toArray⟩ : ByteArray) = P := ⟨_, rfl⟩
          have HPL : Hid (P.toList = l.getD q []) := hide (by rw [← hP, tx_list])
          rw [sv, hP] at kq
          have e2 : decide ((0 : Int) < (k : Int)) = true := decide_eq_true (by omega)
          have e2b : decide (0 < k) = true := decide_eq_true (by omega)
          have i3 : (k : Int) - 1 = (q : Int) := by omega
          have i4 : (0 : Int) ≤ (q : Int) := by omega
          have i5 : (q : Int) < (n : Int) := by omega
          clear hP hab
          by_cases hlt2 : l.getD q [] < l.getD k []
          · have e3 : Op.bytesLess P.toList X.toList = true := by rw [HPL.out, HXL.out, bytesLess_eq]; exact decide_eq_true hlt2
            have HJ2' : Hid (∀ j, 0 < j → j < k + 1 → l.getD (j - 1) [] < l.getD j []) := hide (fun j h hj => by
              by_cases e : j = k
              · rw [e, hq, Nat.add_sub_cancel, ← hq]; exact hlt2
              · exact HJ2.out j h (by omega))
            clear hkl hql hlt2 h0 hq
            go_wp2_with (fail)
            go_roundw
            case rel => exact ⟨k + 1, by omega, by go_num, trivial, HJ1', HJ2'⟩
            case measure => simp [intOf]; omega
          · have e3 : Op.bytesLess P.toList X.toList = false := by rw [HPL.out, HXL.out, bytesLess_eq]; exact decide_eq_false hlt2
            have HNo : Hid (¬ termsOk l at_) := hide (fun h => not_asc (k := k) (by omega) hkl (by rw [hq, Nat.add_sub_cancel, ← hq]; exact hlt2) h.2.2.2)
            clear hkl hql hlt2 h0 hq
            go_wp2_with (fail)
            go_ret2
            exact ⟨Fr.refl _ _, .inr ⟨HNo.out, rfl⟩⟩
    · obtain rfl : k = n := by omega
      have HOk : Hid (termsOk l at_) := hide ⟨by rw [HL.out]; omega, by rw [HL.out, HL2.out], le_of (fun j hj => HJ1.out j (by rw [← HL.out]; exact hj)), asc_of (fun j h hj => HJ2.out j h (by rw [← HL.out]; exact hj))⟩
      have e1 : decide ((k : Int) < k) = false := by simp
      have hwC : IntKind.u64.wrap (k : Int) = (k : Int) := IntWalk.u64_in _ (by omega)
      have HPu := hide (putU_any none 0 0 0 [] k wr rfl (Nat.le_refl _) (Nat.zero_le _) (by omega) (Nat.zero_le _) (Rd.nil _ _ _) (by omega))
      rw [List.nil_append] at HPu
      clear HJ1 HJ2 hlt
      go_wp2_with (fail)
      refine HPu.out.mono ?_
      rintro en w1 ⟨v1, rfl, hown, hfr⟩
      have HO1 := hide hown
      have HF1 := hide hfr
      clear hown hfr HPu hwC e1 d1 d2
      obtain ⟨w, rfl⟩ : ∃ w : World, w = wr := ⟨_, rfl⟩
      obtain ⟨z1, hz1⟩ : ∃ z, z = (enc k).length := ⟨_, rfl⟩
      rw [← hz1] at HO1
      have HZ1 := hide hz1
      clear hz1
      have HU8 := hide (fun (A : Option Addr) (n c B : Nat) (bs : List UInt8) (W : World) (u : Nat) (h1 : bs.length = n) (h2 : n ≤ c) (h3 : c ≤ maxLen) (h4 : n ≤ 100000) (h5 : B ≤ W.heap.size) (h6 : Rd W B A (by8 bs)) (hu : u < 18446744073709551616) => putU_any A n c B bs u W h1 h2 h3 (by omega) h5 h6 hu)
      have HT8 := hide (fun (A : Option Addr) (n c B : Nat) (bs : List UInt8) (s : ByteArray) (W : World) (h1 : bs.length = n) (h2 : n ≤ c) (h3 : c ≤ maxLen) (h4 : n + s.size ≤ 200000) (h5 : B ≤ W.heap.size) (h6 : Rd W B A (by8 bs)) => putText_any A n c B bs s W h1 h2 h3 (by omega) h5 h6)
      go_wp2_with (fail)
      go_loopw [9, 8] (fun i v wr => ∃ (j i' z : Nat) (Z : List UInt8), i = .int .i64 i' ∧ Hid (i' = 16 * j) ∧ i' ≤ k + 15 ∧ Hid (Z = enc k ++ bodB l at_ j) ∧ Hid (z = Z.length) ∧ Hid (Own wr w.heap.size 5 1 v z (by8 Z)) ∧ Hid (Fr No w wr)) (fun i _ _ => k - (intOf i).toNat)
      case atStart => exact ⟨0, 0, z1, enc k, rfl, hide rfl, by omega, hide (by simp [bodB]), HZ1, HO1, HF1⟩
      case round =>
        obtain ⟨wo, rfl⟩ : ∃ wo : World, wo = wr := ⟨_, rfl⟩
        obtain ⟨j, i', z, Z, rfl, HI, hib, HZ, Hz, HO, HFr⟩ := hrel
        clear HO1
        by_cases hlt : i' < k
        · have hil : i' < l.length := by rw [HL.out]; exact hlt
          obtain ⟨ad, X, hA, hab, kc, hX1, hX2, hX3⟩ := cellStr (HR.out.fr0 HFr.out) hil
          subst hA
          have hBw : ad.block < w.heap.size := by have := HBz.out; omega
          have HAb := hide hBw
          obtain ⟨mm, hmm⟩ : ∃ mm, mm = (blkOf l j).length := ⟨_, rfl⟩
          have hmm2 : mm = min 16 (k - i') := by rw [hmm, blkOf_len, HL.out, HI.out]
          obtain ⟨e, he⟩ : ∃ e, e = i' + mm := ⟨_, rfl⟩
          have he2 : min ((i' : Int) + 16) (k : Int) = (e : Int) := by omega
          have hie : i' + 1 ≤ e := by omega
          have hek : e ≤ k := by omega
          have he16 : e ≤ i' + 16 := by omega
          have HE := hide he
          have HMm := hide hmm
          have HBk : Hid (∀ m, m < mm → (blkOf l j).getD m [] = l.getD (i' + m) []) := hide (fun m hm => by rw [blkOf_get (by omega), HI.out])
          have HBle : Hid (∀ t ∈ blkOf l j, t.length ≤ 4096) := hide (fun t ht => HOk.out.2.2.1 t (mem_blk ht))
          have hxl : X.size ≤ 4096 := by rw [hX3]; exact HOk.out.2.2.1 _ (getD_mem hil)
          have HP0 := hide (HT8.out none 0 0 0 [] X wo rfl (Nat.le_refl _) (Nat.zero_le _) (by omega) (Nat.zero_le _) (Rd.nil _ _ _))
          have HT0 : Hid ([] ++ enc X.size ++ X.data.toList = termsB ((blkOf l j).take 1)) := hide (by rw [List.nil_append, termsB_one (by omega), HBk.out 0 (by omega), Nat.add_zero, hX1, hX3, txt])
          rw [HT0.out] at HP0
          obtain ⟨b, hb⟩ : ∃ b, b = blkOf l j := ⟨_, rfl⟩
          rw [← hb] at HP0 HBk HBle HMm
          have HBb := hide hb
          clear hX1 hX2 hX3 hab hmm hmm2 he hb hil hxl HT0 hBw
          go_wp2_with (fail)
          refine HP0.out.mono ?_
          rintro en w2 ⟨v2, rfl, hown, hfr⟩
          have hy0 := termsB_take_le (m := 1) HBle.out (by rw [← HMm.out]; have := HE.out; omega)
          obtain ⟨y0, hy⟩ : ∃ y, y = (termsB (b.take 1)).length := ⟨_, rfl⟩
          rw [← hy] at hown hy0
          have HY0 := hide hy
          have HO2 := hide hown
          have HF2 := hide hfr
          clear hown hfr hy HP0 kc he2
          go_wp2_with (fail)
          go_loopw [12, 11] (fun kk v wx => ∃ (m k' y : Nat) (Y : List UInt8), kk = .int .i64 k' ∧ Hid (k' = i' + m) ∧ i' + 1 ≤ k' ∧ k' ≤ e ∧ Hid (Y = termsB (b.take m)) ∧ Hid (y = Y.length) ∧ y ≤ 65856 ∧ Hid (Own wx wo.heap.size 5 1 v y (by8 Y)) ∧ Hid (Fr No wo wx)) (fun kk _ _ => e - (intOf kk).toNat)
          case atStart => exact ⟨1, i' + 1, y0, _, by go_num, hide rfl, by omega, by omega, hide rfl, HY0, hy0, HO2, HF2⟩
          case round =>
            obtain ⟨wx, rfl⟩ : ∃ wx : World, wx = wr := ⟨_, rfl⟩
            obtain ⟨m, k', y, Y, rfl, HK, hk1, hk2, HY, Hy, hyb, HOy, HFy⟩ := hrel
            clear HO2 HF2
            by_cases hlt2 : k' < e
            · obtain ⟨q, hq⟩ : ∃ q, k' = q + 1 := ⟨k' - 1, by omega⟩
              have hkl : k' < l.length := by rw [HL.out]; omega
              have hql : q < l.length := by omega
              obtain ⟨ad', X, hA, _, kc, hX1, hX2, hX3⟩ := cellStr ((HR.out.fr0 HFr.out).fr0 HFy.out) hkl
              injection hA with hA
              subst hA
              obtain ⟨ad', P, hA, _, kq, hP1, hP2, hP3⟩ := cellStr ((HR.out.fr0 HFr.out).fr0 HFy.out) hql
              injection hA with hA
              subst hA
              have hxl : X.size ≤ 4096 := by rw [hX3]; exact HOk.out.2.2.1 _ (getD_mem hkl)
              have hpl : P.size ≤ 4096 := by rw [hP3]; exact HOk.out.2.2.1 _ (getD_mem hql)
              have HSh := hide (fun W => shared_any P X W (by unfold maxLen; omega) (by unfold maxLen; omega))
              obtain ⟨s, hs⟩ : ∃ s, s = shN P.data.toList X.data.toList := ⟨_, rfl⟩
              have hsle := shN_le P.data.toList X.data.toList
              rw [← hs] at HSh hsle
              have hsX : s ≤ X.size := by rw [hX3, ← hX1]; exact hsle.2
              have HSt : Hid (Y ++ (enc s ++ (enc (X.size - s) ++ X.data.toList.drop s)) = termsB (b.take (m + 1))) := hide (by
                have e1 := HK.out
                have e2 := HE.out
                rw [termsB_snoc (by omega) (by rw [← HMm.out]; omega), HY.out, HBk.out (m - 1) (by omega), HBk.out m (by omega), show i' + (m - 1) = q by omega, ← e1, stepB, ← hX1, ← hP1, ← hs, txt, List.length_drop, hX1, ← hX3])
              have i3 : (k' : Int) - 1 = (q : Int) := by omega
              have i4 : (0 : Int) ≤ (q : Int) := by omega
              have i5 : (q : Int) < (k : Int) := by omega
              have i6 : (0 : Int) ≤ (k' : Int) := by omega
              have i7 : (k' : Int) < (k : Int) := by omega
              have i8 : IntKind.i64.wrap ((k' : Int) - 1) = (q : Int) := by rw [i3]; exact IntWalk.i64_in _ (by omega)
              clear hP1 hP2 hP3 hX2 hq hkl hql hs hsle
              go_wp2_with (fail)
              go_quiet ((go_at_call 51; exact Calls.quiet_of (HSh.out _)))
              go_wp2_with (fail)
              obtain ⟨wd, hwd⟩ : ∃ W, W = wx.drewN nq := ⟨_, rfl⟩
              have HFd : Hid (Fr No wo wd) := hide (by rw [hwd]; exact HFy.out.drewN nq)
              have hOd : Own wd wo.heap.size 5 1 u11 y (by8 Y) := by rw [hwd]; exact HOy.out.fr0 ((Fr.refl No wx).drewN nq)
              have kd : wd.drew.cell? (ad.add k') = some (.string X) := by rw [hwd]; exact kc
              rw [← hwd]
              clear hwd kc i3 i8
              obtain ⟨A3, c3, rfl, x1, x2, _⟩ := hOd.form
              have HPu := hide (HU8.out A3 y c3 _ Y wd.drew s Hy.out.symm x1 x2 (by omega) (Nat.le_refl _) (hOd.rd.fr0 (Fr.refl No wd).drew) (by omega))
              have K0 := hide kd
              have hTs : (X.extract s X.size).size = X.size - s := by rw [ByteArray.size_extract]; omega
              have HTs := hide hTs
              have HTl : Hid ((X.extract s X.size).data.toList = X.data.toList.drop s) := hide (by rw [← ByteArray.toList_eq, Lib.extract_toList, List.take_of_length_le (by rw [List.length_drop, Array.length_toList]; exact Nat.le_refl _)])
              have i8 : IntKind.u64.wrap (s : Int) = (s : Int) := IntWalk.u64_in _ (by omega)
              have i9 : (0 : Int) ≤ (s : Int) := by omega
              have i10 : (s : Int) ≤ (X.size : Int) := by omega
              have hAk : ad.block < wd.heap.size := by have h1 := HAb.out; have h2 := HFr.out.size; have h3 := HFd.out.size; omega
              have HX1 := hide hX1
              clear hOd x1 x2 hTs HSh hX1 hX3
              refine wp_named fun K hK => ?_
              go_cut [11] from 87 to 97 (fun v wz => ∃ y', Hid (y' = (termsB (b.take (m + 1))).length) ∧ Hid (Own wz wo.heap.size 5 1 v y' (by8 (termsB (b.take (m + 1))))) ∧ Hid (Fr No wo wz))
              case first =>
                go_region_held3 (fun W => W.cell? (ad.add k') = some (.string X)) (first | exact K6.out | exact K5.out | exact K0.out) (first
                  | (go_at_call 50; refine (HPt.out).mono ?_; rintro en w6 ⟨v6, rfl, hown, hfr⟩; have HO6 := hide hown; have HF6 := hide hfr; have K6 : Hid (w6.cell? (ad.add k') = some (.string X)) := hide (hfr.cell K5.out (fun h => h)); clear hown hfr)
                  | (go_at_call 49; refine HPu.out.mono ?_; rintro en w5 ⟨v5, rfl, hown, hfr⟩; obtain ⟨l5, hl5⟩ : ∃ k, k = (Y ++ enc s).length := ⟨_, rfl⟩; rw [← hl5] at hown; obtain ⟨A5, c5, rfl, x3, x4, _⟩ := hown.form; have K5 : Hid (w5.cell? (ad.add k') = some (.string X)) := hide (hfr.cell K0.out (fun h => h)); have HO5 := hide hown; have HF5 := hide hfr; have HPt := hide (HT8.out A5 l5 c5 _ (Y ++ enc s) (X.extract s X.size) w5 hl5.symm x3 x4 (by rw [HTs.out, hl5, List.length_append, ← Hy.out]; have := (enc_len s).2; omega) (Nat.le_refl _) hown.rd); clear hown hfr hl5 x3 x4))
                all_goals (go_wp2; go_meet)
                all_goals (
                  have e : Y ++ enc s ++ enc (X.extract s X.size).size ++ (X.extract s X.size).data.toList = termsB (b.take (m + 1)) := by
                    rw [HTs.out, HTl.out, ← HSt.out]
                    simp [List.append_assoc]
                  refine ⟨_, hide rfl, hide ?_, hide ((HFd.out.tr (Fr.of_drewN (n := 1) HF5.out)).tr HF6.out)⟩
                  rw [← e]
                  exact HO6.out.lower (HFd.out.tr (Fr.of_drewN (n := 1) HF5.out)).size)
              case rest =>
                obtain ⟨y', Hy', HO7, HF7⟩ := hcut
                have hy' : y' ≤ 65856 := by rw [Hy'.out]; exact termsB_take_le HBle.out (by rw [← HMm.out]; have := HE.out; omega)
                refine hK _ _ ?_
                go_wp2_with (fail)
                go_roundw
                case rel => exact ⟨m + 1, k' + 1, y', _, by go_num, hide (by rw [HK.out]; omega), by omega, by omega, hide rfl, Hy', hy', HO7, HF7⟩
                case measure => simp [intOf]; omega
            · obtain rfl : k' = e := by omega
              have hmm : m = mm := by have h1 := HK.out; have h2 := HE.out; omega
              have HYb : Hid (Y = termsB b) := hide (by rw [HY.out, List.take_of_length_le (by rw [← HMm.out]; omega)])
              have hvl : i' < at_.length := by rw [HL2.out]; omega
              obtain ⟨ad2, hA2, hab2, kv0⟩ := cellU64 ((HR2.out.fr0 HFr.out).fr0 HFy.out) hvl
              subst hA2
              have hci : i' < c2 := by omega
              have hmi : (k' : Int) - (i' : Int) = (mm : Int) := by have := HE.out; omega
              have i3 : (0 : Int) ≤ (i' : Int) := by omega
              have i4 : (i' : Int) ≤ (k' : Int) := by omega
              have i5 : (k' : Int) ≤ (c2 : Int) := by omega
              have i6 : (0 : Int) ≤ (k' : Int) := by omega
              have HVl : Hid ((valOf at_ j).length = mm) := hide (by rw [valOf_len, HL2.out, HMm.out, HBb.out, blkOf_len, HL.out])
              have HVg : Hid (∀ q, q < mm → (valOf at_ j).getD q 0 = at_.getD (i' + q) 0) := hide (fun q hq => by
                have h1 := HVl.out
                rw [valOf_len] at h1
                rw [valOf_get (by omega), HI.out])
              obtain ⟨vs, hvs⟩ : ∃ vs, vs = valOf at_ j := ⟨_, rfl⟩
              rw [← hvs] at HVl HVg
              have HVs := hide hvs
              have HAb2 := hide hab2
              clear hvl kv0 hvs hab2 hlt2
              have hyv : y ≤ 65856 := hyb
              go_wp2_with (fail)
              go_loopw [103, 11] (fun ix v wz => ∃ (q y2 : Nat) (Y2 : List UInt8), q ≤ mm ∧ ix = .int .i64 q ∧ Hid (Y2 = termsB b ++ valB (vs.take q)) ∧ Hid (y2 = Y2.length) ∧ y2 ≤ 65856 + 10 * q ∧ Hid (Own wz wo.heap.size 5 1 v y2 (by8 Y2)) ∧ Hid (Fr No wo wz)) (fun ix _ _ => mm - (intOf ix).toNat)
              case atStart => exact ⟨0, y, Y, by omega, rfl, hide (by rw [HYb.out]; simp [valB]), Hy, by omega, HOy, HFy⟩
              case round =>
                obtain ⟨wz, rfl⟩ : ∃ wz : World, wz = wr := ⟨_, rfl⟩
                obtain ⟨q, y2, Y2, hq, rfl, HY2, Hy2, hyb2, HO2, HF2⟩ := hrel
                clear HOy HFy Hy
                by_cases hlt3 : q < mm
                · have hvl : i' + q < at_.length := by rw [HL2.out]; have := HE.out; omega
                  obtain ⟨ad3, hA2, _, kv⟩ := cellU64 ((HR2.out.fr0 HFr.out).fr0 HF2.out) hvl
                  injection hA2 with hA2
                  subst hA2
                  have hV : Hid (at_.getD (i' + q) 0 = vs.getD q 0) := hide (HVg.out q hlt3).symm
                  have hVu : Hid (vs.getD q 0 < 18446744073709551616) := hide (by
                    rw [← hV.out, List.getD, List.getElem?_eq_getElem hvl]
                    exact HU.out _ (List.getElem_mem hvl))
                  rw [hV.out, ← add_of_add] at kv
                  obtain ⟨v, hv⟩ : ∃ v, v = vs.getD q 0 := ⟨_, rfl⟩
                  rw [← hv] at kv hVu
                  have HVv := hide hv
                  have HVT : Hid (valB (vs.take (q + 1)) = valB (vs.take q) ++ enc v) := hide (by rw [take_getD 0 (by rw [HVl.out]; exact hlt3), valB_snoc, HVv.out])
                  obtain ⟨A3, c3, rfl, x1, x2, _⟩ := HO2.out.form
                  have HPu := hide (HU8.out A3 y2 c3 _ Y2 wz v Hy2.out.symm x1 x2 (by omega) (Nat.le_refl _) HO2.out.rd hVu.out)
                  have j1 : (0 : Int) ≤ (q : Int) := by omega
                  have j2 : (q : Int) < (mm : Int) := by omega
                  clear hvl hv x1 x2 hci
                  go_wp2_with (go_at_call 49; refine HPu.out.mono ?_; rintro en w5 ⟨v5, rfl, hown, hfr⟩; have HO5 := hide hown; have HF5 := hide hfr; clear hown hfr)
                  go_roundw
                  case rel => exact ⟨q + 1, _, Y2 ++ enc v, by omega, by go_num, hide (by rw [HY2.out, HVT.out, List.append_assoc]), hide rfl, by rw [List.length_append, ← Hy2.out]; have := (enc_len v).2; omega, hide (HO5.out.lower HF2.out.size), hide (HF2.out.tr HF5.out)⟩
                  case measure => simp [intOf]; omega
                · have hq2 : q = mm := by omega
                  have HBt : Hid (Y2 = blkT b vs) := hide (by rw [HY2.out, List.take_of_length_le (by rw [HVl.out]; omega), blkT])
                  obtain ⟨A3, c3, rfl, x1, x2, _⟩ := HO2.out.form
                  have HS2 := hide (Src.ofRd (P := Try.prog) (size := 1) wz Try.underlying24 A3 y2 c3 (by8 Y2) (by rw [by8_length, Hy2.out]; omega) (by omega) HO2.out.rd (by8_one _))
                  have HO3 := hide (HO.out.fr0 HF2.out)
                  have HZb : Hid (z ≤ 4500000010) := hide (by
                    rw [Hz.out, HZ.out, List.length_append]
                    have h1 := (enc_len k).2
                    have h2 := bodB_le HOk.out (j := j) (by have := HI.out; have := HL.out; unfold nbT; omega)
                    omega)
                  have hzb := HZb.out
                  obtain ⟨i0, hi, hz, hsz, hby⟩ := info_parts Try.info5
                  have b1 : (z + y2) * 1 ≤ 140737488355328 := by omega
                  have b2 : z + y2 ≤ maxLen := by unfold maxLen; omega
                  have b3 : w.heap.size ≤ wz.heap.size := by have h1 := HFr.out.size; have h2 := HF2.out.size; omega
                  have HFz : Hid (Fr No w wz) := hide (HFr.out.tr HF2.out)
                  clear x1 x2 hci hzb
                  go_wp2_with (first | (at_builtin; refine wpList_append_gen _ rfl (.tmp 111) (.tmp 112) 24 24 rfl w.heap.size 5 i0 (.int .u8 0) 1 1 Try.underlying24 hi hz hsz hby rfl u8 z (by8 Z) rfl HO3.out _ y2 (by8 Y2) rfl HS2.out b1 b2 b3 ?_; intro v5 w5 hown hfr hat; have HO5 := hide hown; have HF5 : Hid (Fr No w w5) := hide (HFz.out.own hfr (fun k hk => .inl (HO3.out.lt k hk).1)); clear hown hfr hat) | fail)
                  go_roundw
                  case rel => exact ⟨j + 1, i' + 16, z + y2, Z ++ Y2, by go_num, hide (by rw [HI.out]; omega), by omega, hide (by rw [HZ.out, bodB_succ, List.append_assoc, HBt.out, ← HBb.out, ← HVs.out]), hide (by rw [List.length_append, ← Hz.out, ← Hy2.out]), hide (by rw [by8_append]; exact HO5.out), HF5⟩
                  case measure => simp [intOf]; omega
        · have hjn : j = nbT k := by have := HI.out; unfold nbT; omega
          have HDi : Hid (dictB l at_ = Z) := hide (by rw [dict_bod HOk.out.2.1, HL.out, HZ.out, hjn])
          have hzb : z ≤ 140737488355328 := by
            rw [Hz.out, ← HDi.out]
            have := dictB_le (at_ := at_) HOk.out.2.2.1
            rw [HL.out] at this
            omega
          obtain ⟨A3, c3, rfl, x1, x2, _⟩ := HO.out.form
          have HCl := hide (fun W => clip_any A3 z c3 W x1 x2)
          have HO3 := hide (HO.out.clip)
          clear x1 x2 hjn
          go_wp2_with (go_at_call 52; refine (HCl.out _).mono ?_; rintro en w2 ⟨rfl, rfl⟩)
          go_ret2
          refine ⟨HFr.out, .inl ⟨HOk.out, A3, z, by rw [HDi.out]; exact Hz.out, rfl, ?_⟩⟩
          rw [HDi.out]
          exact HO3.out
end Go.Proofs.Ytcdhbdhhknlbaaa
