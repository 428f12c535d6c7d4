/- Several texts in one: LowQ, LowS, LowW, FindW, RangeW, NilW, OpP, StepA, RdEnd, TOpS, RgMem. -/
import Derived.Test.YtcdhbdhhknlbaaaK5
import Derived.RegionTactic
import Derived.BigRegion
import Derived.RangeFuncNested
import Derived.RangeFuncBound
import Derived.RangeFuncCalls
import Derived.RangeFuncLeaves
import Derived.Shelf.Abstract
import Derived.Shelf.RegionOpen
import Derived.WalkKit
import Derived.OwnWalkIn
import Derived.TacticsInMore
import Derived.LoopNIn
import Derived.LoopIn
namespace Go.Proofs.Ytcdhbdhhknlbaaa
set_option linter.unusedVariables false
set_option linter.unusedSimpArgs false
open Go.Shelf Go.RowKit Go.Lib Go.Sort

theorem count_mono (p : Nat → Bool) : ∀ n : Nat, (∀ a b, a ≤ b → b < n → p a = true → p b = true) → ∀ i, i < n → (i < (List.range n).countP (fun i => !p i) ↔ p i = false)
  | 0, _, i, hi => by omega
  | n + 1, hm, i, hi => by
    have ih := count_mono p n (fun a b h1 h2 => hm a b h1 (by omega))
    have hle : (List.range n).countP (fun i => !p i) ≤ n := by have := List.countP_le_length (p := fun i => !p i) (l := List.range n); simpa using this
    rw [List.range_succ, List.countP_append]
    cases hp : p n with
    | false =>
      have hall : ∀ k, k ≤ n → p k = false := fun k hk => by
        cases h : p k with
        | false => rfl
        | true => have := hm k n hk (by omega) h; rw [hp] at this; cases this
      have hc : (List.range n).countP (fun i => !p i) = n := by
        have := List.countP_eq_length (p := fun i => !p i) (l := List.range n)
        rw [List.length_range] at this
        exact this.2 (fun k hk => by simp at hk; simp [hall k (by omega)])
      rw [hc]
      simp [hp, hall i (by omega)]
      omega
    | true =>
      simp [hp]
      by_cases e : i = n
      · subst e
        rw [hp]
        simp
        omega
      · exact ih i (by omega)
theorem fs_mono {l : List Tx} (h : Asc l) (s : Tx) : ∀ a b, a ≤ b → b < (fsT l).length → decide (s < (fsT l).getD a []) = true → decide (s < (fsT l).getD b []) = true := by
  intro a b hab hb h1
  rw [fsT_len] at hb
  have hb2 : 16 * b < l.length := by unfold nbT at hb; omega
  rw [fsT_at (by omega)] at h1 ⊢
  rw [decide_eq_true_eq] at h1 ⊢
  by_cases e : a = b
  · rw [← e]; exact h1
  · exact tl_trans h1 (h.lt (by omega) hb2)
theorem upT_lt {l : List Tx} (h : Asc l) (s : Tx) {i : Nat} (hi : 16 * i < l.length) : i < upT (fsT l) s ↔ ¬ s < l.getD (16 * i) [] := by
  have := count_mono (fun i => decide (s < (fsT l).getD i [])) (fsT l).length (fs_mono h s) i (by rw [fsT_len]; unfold nbT; omega)
  unfold upT
  rw [this, fsT_at hi]
  simp
theorem upT_le (l : List Tx) (s : Tx) : upT (fsT l) s ≤ nbT l.length := by
  have := List.countP_le_length (p := fun i => !decide (s < (fsT l).getD i [])) (l := List.range (fsT l).length)
  rw [List.length_range, fsT_len] at this
  unfold upT
  rw [fsT_len]
  exact this
theorem low_none {l : List Tx} (h : Asc l) {s : Tx} (h0 : upT (fsT l) s = 0) : lowT l s = 0 := by
  by_cases hl : l.length = 0
  · have := lowT_le l s; omega
  · have h1 := upT_lt h s (i := 0) (by omega)
    rw [h0] at h1
    have h2 : s < l.getD (16 * 0) [] := Classical.not_not.1 (fun k => absurd (h1.2 k) (by omega))
    have h3 := low_iff (s := s) h (i := 0) (by omega)
    have h4 : ¬ 0 < lowT l s := fun k => tl_irrefl _ (tl_trans h2 (h3.2 k))
    omega
theorem low_some {l : List Tx} (h : Asc l) {s : Tx} {j : Nat} (h0 : upT (fsT l) s = j + 1) : 16 * j < l.length ∧ lowT l s = 16 * j + lowT (blkOf l j) s := by
  have hle := upT_le l s
  have hj : 16 * j < l.length := by unfold nbT at hle; omega
  refine ⟨hj, low_blk h hj ((upT_lt h s hj).1 (by omega)) (fun h2 => ?_)⟩
  have h3 := upT_lt h s h2
  exact Classical.not_not.1 (fun k => absurd (h3.2 k) (by omega))
end Go.Proofs.Ytcdhbdhhknlbaaa
namespace Go.Proofs.Ytcdhbdhhknlbaaa
set_option linter.unusedVariables false
set_option linter.unusedSimpArgs false
open Go.Shelf Go.RowKit Go.Lib Go.Sort

theorem srch_any (g bd bs L n c : Nat) (l : List Tx) (s : Tx) (W : World) (v0 v2 : Value)
    (h1 : W.heap[bd]? = some (.cells #[.pointer (some ⟨g, 0, none⟩)] 28 (0, 0))) (h2 : W.heap[bs]? = some (.cells #[sv s] 9 (0, 0)))
    (h3 : W.heap[g]? = some (.cells #[v0, .slice (some ⟨L, 0, none⟩) n c, v2] 75 (0, 0))) (hn : n = (fsT l).length) (hn2 : n ≤ 1048576) (hrow : ∀ i, i < n → W.cell? ⟨L, i, none⟩ = some (sv ((fsT l).getD i []))) (ha : Asc l) :
    Calls Try.prog 76 #[.int .i64 n, .func (.func 77) #[] #[.pointer (some ⟨bd, 0, none⟩), .pointer (some ⟨bs, 0, none⟩)]] W (fun e w' => e = .returned (.int .i64 (upT (fsT l) s : Nat)) ∧ Fr No W w') := by
  have eg : ∀ args w, (callFunc 77 args).run Try.prog w = .ok (.enter 77 args) w := enters_of Try.func77 (by kernel_rfl) rfl
  have hS := Any.sort_Search Try.search 77 #[.pointer (some ⟨bd, 0, none⟩), .pointer (some ⟨bs, 0, none⟩)] n (fun i => decide (s < (fsT l).getD i [])) W eg (by omega)
    (fun m os i hi => by
      have f : Fr No W (grow (W.drewN m) os) := Fr.of_below (below_grown_sl W.heap.size W m os (Nat.le_refl _))
      refine (lowc_any g bd bs L n c i s ((fsT l).getD i []) (grow (W.drewN m) os) v0 v2 (f.blk h1 (fun h => h)) (f.blk h2 (fun h => h)) (f.blk h3 (fun h => h)) hi hn2 (f.cell (hrow i hi) (fun h => h))).mono ?_
      rintro en w' ⟨rfl, q, hq⟩
      exact ⟨rfl, q, #[], by rw [grow_empty]; exact hq⟩)
    (fun a b h4 h5 => fs_mono ha s a b h4 (by omega))
  refine hS.mono ?_
  rintro en w' ⟨rfl, q, os, rfl⟩
  refine ⟨?_, Fr.of_below (below_grown_sl W.heap.size W q os (Nat.le_refl _))⟩
  unfold upT
  rw [hn]

theorem sstr_any (L m B : Nat) (b : List Tx) (s : Tx) (W : World) (ho : Own W B 9 1 (.slice (some ⟨L, 0, none⟩) m m) m (svs b)) (hm : m = b.length) (hm2 : m ≤ 16) (ha : Asc b) :
    Calls Try.prog 78 #[.slice (some ⟨L, 0, none⟩) m m, .string ⟨s.toArray⟩] W (fun e w' => e = .returned (.int .i64 (lowT b s : Nat)) ∧ Fr No W w') := by
  obtain ⟨d, hd⟩ : ∃ d : Array ByteArray, d = (b.map fun t => (⟨t.toArray⟩ : ByteArray)).toArray := ⟨_, rfl⟩
  have hds : d.size = m := by rw [hd, hm]; simp
  have hget : ∀ i, i < m → d[i]! = ⟨(b.getD i []).toArray⟩ := fun i hi => by
    rw [getElem!_pos d i (by omega)]
    simp [hd, List.getD, List.getElem?_eq_getElem (show i < b.length by omega)]
  by_cases h0 : m = 0
  · have hb : b = [] := List.eq_nil_of_length_eq_zero (by omega)
    subst hb
    subst h0
    refine (Any.sort_SearchStrings_none Try.searchStrings (some ⟨L, 0, none⟩) 0 ⟨s.toArray⟩ W).mono ?_
    rintro en w' ⟨rfl, hb⟩
    exact ⟨rfl, Fr.of_below hb⟩
  · have hlt : L < W.heap.size := (ho.lt L rfl).2
    have hS := Any.sort_SearchStrings Try.searchStrings L 0 m d ⟨s.toArray⟩ W (fun i hi => by
      obtain ⟨G, e1, _, _, h4, _⟩ := ho.store (k := i) (by omega)
      injection e1 with e1
      injection e1 with e1 _ _
      subst e1
      rw [Nat.zero_add, h4, svs_get (by omega), hget i (by omega)]
      rfl) hlt (by omega) (fun i j h1 h2 h3 => by
      rw [hget i (by omega)] at h3
      rw [hget j (by omega)]
      have h3 : ¬ b.getD i [] < s := by simpa using h3
      have h4 : ¬ b.getD j [] < s := fun k => by
        by_cases e : i = j
        · subst e; exact h3 k
        · exact h3 (tl_trans (ha.lt (i := i) (j := j) (by omega) (by omega)) k)
      simpa using h4)
    rw [hds] at hS
    refine hS.mono ?_
    rintro en w' ⟨rfl, hb⟩
    refine ⟨?_, Fr.of_below hb⟩
    unfold lowT
    rw [hd]
    simp [List.countP_map, Function.comp_def]
end Go.Proofs.Ytcdhbdhhknlbaaa
namespace Go.Proofs.Ytcdhbdhhknlbaaa
set_option linter.unusedVariables false
set_option linter.unusedSimpArgs false
open Go.RowKit

set_option maxRecDepth 100000 in
set_option maxHeartbeats 3200000 in
theorem lower_any (g B : Nat) (l : List Tx) (at_ : List Nat) (s : Tx) (w : World) (h : DictM w B g l at_) :
    Calls Try.prog 63 #[.pointer (some ⟨g, 0, none⟩), .string ⟨s.toArray⟩] w (fun en w' => en = .returned (.int .i64 (lowT l s : Nat)) ∧ Fr No w w') := by
  obtain ⟨w1, hw1⟩ : ∃ w1, w1 = w.alloc (.cells #[.pointer (some ⟨g, 0, none⟩)] 28) := ⟨_, rfl⟩
  obtain ⟨w2, hw2⟩ : ∃ w2, w2 = w1.alloc (.cells #[.string ⟨s.toArray⟩] 9) := ⟨_, rfl⟩
  have f1 : Fr No w w1 := by rw [hw1]; exact (Fr.refl No w).alloc _
  have f2 : Fr No w1 w2 := by rw [hw2]; exact (Fr.refl No w1).alloc _
  have hs1 : w1.heap.size = w.heap.size + 1 := by rw [hw1]; simp
  have b1 : w1.heap[w.heap.size]? = some (.cells #[.pointer (some ⟨g, 0, none⟩)] 28 (0, 0)) := by rw [hw1]; exact heap_alloc_new w _
  have b2 : w2.heap[w.heap.size + 1]? = some (.cells #[sv s] 9 (0, 0)) := by rw [hw2, ← hs1]; exact heap_alloc_new w1 _
  have b3 := f2.blk b1 (fun h => h)
  have f3 : Fr No w w2 := f1.tr f2
  have HM := hide (h.fr0 f3)
  have HF := hide f3
  have HW2 : Hid ((w.alloc (.cells #[.pointer (some ⟨g, 0, none⟩)] 28)).alloc (.cells #[.string ⟨s.toArray⟩] 9) = w2) := hide (by rw [hw2, hw1])
  have HA := hide h.asc
  have HLe := hide (dlen_any g B l.length _ _ w2 (h.fr0 f3).mem)
  have k1 : w2.cell? ⟨w.heap.size, 0, none⟩ = some (.pointer (some ⟨g, 0, none⟩)) := cell_of_row _ _ 0 _ _ _ b3
  have hn := h.ok.1
  clear hw1 hw2 hs1 b1 f1 f2 f3 h
  by_cases h0 : l.length = 0
  · have hl0 : lowT l s = 0 := by have := lowT_le l s; omega
    rw [hl0]
    rw [h0] at HLe
    clear hl0 HA HM b2 b3
    go_enter Try.func63, Try.ntmps63
    go_wp2_with (go_at_call 14; rw [HW2.out]; refine HLe.out.mono ?_; rintro en w3 ⟨rfl, rfl⟩)
    go_ret
    exact ⟨rfl, HF.out⟩
  · obtain ⟨_, vb, vf, vals, m1, _, _, m4⟩ := HM.out.mem
    have hnf : (fsT l).length = nbT l.length := fsT_len l
    have hnb : 0 < nbT l.length ∧ nbT l.length ≤ 1048576 := by unfold nbT; omega
    obtain ⟨A, c, rfl, _⟩ := m4.form
    obtain ⟨L, rfl, _⟩ := m4.store (k := 0) (by omega)
    have hrow : ∀ i, i < (fsT l).length → w2.cell? ⟨L, i, none⟩ = some (sv ((fsT l).getD i [])) := fun i hi => by
      obtain ⟨G, e1, _, _, q, _⟩ := m4.store hi
      injection e1 with e1
      injection e1 with e1 _ _
      subst e1
      rw [q, svs_get hi]
    have k2 : w2.cell? ⟨g, 1, none⟩ = some (.slice (some ⟨L, 0, none⟩) (fsT l).length c) := cell_of_row _ _ 1 _ _ _ m1
    have HSr := hide (srch_any g w.heap.size (w.heap.size + 1) L _ c l s w2 _ _ b3 b2 m1 rfl (by omega) hrow HA.out)
    have hup := upT_le l s
    generalize (fsT l).length = N at k2 HSr hnf
    have hN : N ≤ 1048576 := by omega
    have e0 : ((l.length : Nat) : Int) ≠ 0 := by omega
    have e1 : (((l.length : Nat) : Int) == 0) = false := by simpa using h0
    by_cases hu : upT (fsT l) s = 0
    · rw [low_none HA.out hu]
      rw [hu] at HSr
      clear hu hup hrow m1 m4 b2 b3 HA HM hnf hnb h0 e0
      go_enter Try.func63, Try.ntmps63
      go_wp2_with (first
        | (go_at_call 14; rw [HW2.out]; refine HLe.out.mono ?_; rintro en w3 ⟨rfl, rfl⟩)
        | (go_at_call 76; refine HSr.out.mono ?_; rintro en w3 ⟨rfl, hfr⟩; have HF3 := hide (HF.out.tr hfr); clear hfr))
      go_ret
      exact ⟨rfl, HF3.out⟩
    · obtain ⟨j, hj⟩ : ∃ j, upT (fsT l) s = j + 1 := ⟨upT (fsT l) s - 1, by omega⟩
      obtain ⟨hjl, hlo⟩ := low_some HA.out hj
      rw [hlo]
      rw [hj] at HSr hup
      have HBl := hide (fun W hW => dblock_any g B j l at_ W hW hjl)
      have HSs := hide (fun L2 m B2 W ho hm h16 => sstr_any L2 m B2 (blkOf l j) s W ho hm h16 (asc_blk HA.out j))
      have hbl := blkOf_len l j
      have hlb := lowT_le (blkOf l j) s
      have HBL := hide hbl
      have b3' := b3
      have b2' := b2
      have HB2 := hide b2
      have HB3 := hide b3
      have w1' : wrap64 ((j : Int) * 16) = (j : Int) * 16 := by unfold wrap64; omega
      have w2' : wrap64 ((j : Int) + 1 - 1) = (j : Int) := by unfold wrap64; omega
      have w3' : decide ((j : Int) < 0) = false := decide_eq_false (by omega)
      have w4' : IntKind.i64.wrap ((j : Int) + 1 - 1) = (j : Int) := by rw [show ((j : Int) + 1 - 1) = (j : Int) by omega]; exact IntWalk.i64_in _ (by omega)
      rw [show ((j + 1 : Nat) : Int) = (j : Int) + 1 by omega] at HSr
      rw [show ((16 * j + lowT (blkOf l j) s : Nat) : Int) = (j : Int) * 16 + (lowT (blkOf l j) s : Nat) by omega]
      have hq : lowT (blkOf l j) s ≤ 16 := by omega
      generalize lowT (blkOf l j) s = q at HSs hq ⊢
      have hjb : j ≤ 1048576 := by omega
      clear hup hrow m1 m4 b2 b3 hnf hnb h0 e0 hu hj hjl hlo hlb hbl b2' b3'
      go_enter Try.func63, Try.ntmps63
      go_wp2_with (first
        | (go_at_call 14; rw [HW2.out]; refine HLe.out.mono ?_; rintro en w3 ⟨rfl, rfl⟩)
        | (go_at_call 76; refine HSr.out.mono ?_; rintro en w3 ⟨rfl, hfr⟩; have HF3 := hide hfr; have k3 : w3.cell? ⟨w.heap.size, 0, none⟩ = some (.pointer (some ⟨g, 0, none⟩)) := cell_of_row _ _ 0 _ _ _ (hfr.blk HB3.out (fun h => h)); clear hfr)
        | (go_at_call 48; refine (HBl.out w3 (HM.out.fr0 HF3.out)).mono ?_; rintro en w4 ⟨hfr, L4, V4, m, hm, rfl, ho1, _⟩; have HF4 := hide (HF3.out.tr hfr); have HO := hide ho1; have HMm := hide hm; have k4 : w4.cell? ⟨w.heap.size + 1, 0, none⟩ = some (.string ⟨s.toArray⟩) := cell_of_row _ _ 0 _ _ _ (HF4.out.blk HB2.out (fun h => h)); clear hfr ho1 hm)
        | (go_at_call 78; refine (HSs.out L4 m _ w4 HO.out HMm.out (by have := HMm.out; have := HBL.out; omega)).mono ?_; rintro en w5 ⟨rfl, hfr⟩; have HF5 := hide (HF.out.tr (HF4.out.tr hfr)); clear hfr))
      go_ret
      exact ⟨rfl, HF5.out⟩
end Go.Proofs.Ytcdhbdhhknlbaaa
namespace Go.Proofs.Ytcdhbdhhknlbaaa
set_option linter.unusedVariables false
set_option linter.unusedSimpArgs false
open Go.RowKit

/-- what Find answers. -/
def findV (l : List Tx) (s : Tx) : Value := if lowT l s < l.length ∧ l.getD (lowT l s) [] = s then .tuple #[.int .i64 (lowT l s : Nat), .bool true] else .tuple #[.int .i64 0, .bool false]

set_option maxRecDepth 100000 in
set_option maxHeartbeats 1600000 in
theorem dfind_any (g B : Nat) (l : List Tx) (at_ : List Nat) (s : Tx) (w : World) (h : DictM w B g l at_) :
    Calls Try.prog 30 #[.pointer (some ⟨g, 0, none⟩), .string ⟨s.toArray⟩] w (fun en w' => en = .returned (findV l s) ∧ Fr No w w') := by
  have HLo := hide (lower_any g B l at_ s w h)
  have HM := hide h
  have HLe := hide (fun W (hW : DictM W B g l at_) => dlen_any g B l.length _ _ W hW.mem)
  have HTm := hide (fun W (hW : DictM W B g l at_) => dterm_any g B l at_ W (lowT l s : Nat) hW)
  have hn := h.ok.1
  unfold findV
  clear h
  have eT : termAt l (lowT l s : Nat) = l.getD (lowT l s) [] := by unfold termAt; rw [if_pos (by omega), Int.toNat_natCast]
  rw [eT] at HTm
  clear eT
  generalize lowT l s = q at HLo HTm ⊢
  generalize l.getD q [] = t at HTm ⊢
  have hnn : l.length ≤ 1048576 := hn
  generalize hNl : l.length = n at HLe hnn ⊢
  clear hn hNl
  obtain ⟨X, hX⟩ : ∃ X : ByteArray, sv t = .string X := ⟨_, rfl⟩
  obtain ⟨Y, hY⟩ : ∃ Y : ByteArray, (⟨s.toArray⟩ : ByteArray) = Y := ⟨_, rfl⟩
  have eX : X.toList = t := by
    unfold sv at hX
    injection hX with h
    rw [← h, tx_list]
  have eY : Y.toList = s := by rw [← hY, tx_list]
  rw [hX] at HTm
  rw [hY] at HLo ⊢
  clear hX hY
  by_cases hq : q < n
  · have d1 : decide ((n : Int) ≤ q) = false := decide_eq_false (by omega)
    have d2 : decide (n ≤ q) = false := decide_eq_false (by omega)
    by_cases ht : t = s
    · have d3 : (X.toList == Y.toList) = true := by rw [eX, eY]; simpa using ht
      rw [if_pos ⟨hq, ht⟩]
      clear eX eY hq ht
      go_enter Try.func30, Try.ntmps30
      go_wp2_with (first
        | (go_at_call 63; refine HLo.out.mono ?_; rintro en w2 ⟨rfl, hfr⟩; have HF2 := hide hfr; clear hfr)
        | (go_at_call 14; refine (HLe.out w2 (HM.out.fr0 HF2.out)).mono ?_; rintro en w3 ⟨rfl, rfl⟩)
        | (go_at_call 15; refine (HTm.out w2 (HM.out.fr0 HF2.out)).mono ?_; rintro en w3 ⟨rfl, hfr⟩; have HF3 := hide (HF2.out.tr hfr); clear hfr))
      go_ret2
      exact ⟨rfl, HF3.out⟩
    · have d3 : (X.toList == Y.toList) = false := by rw [eX, eY]; simpa using ht
      rw [if_neg (fun k => ht k.2)]
      clear eX eY hq ht
      go_enter Try.func30, Try.ntmps30
      go_wp2_with (first
        | (go_at_call 63; refine HLo.out.mono ?_; rintro en w2 ⟨rfl, hfr⟩; have HF2 := hide hfr; clear hfr)
        | (go_at_call 14; refine (HLe.out w2 (HM.out.fr0 HF2.out)).mono ?_; rintro en w3 ⟨rfl, rfl⟩)
        | (go_at_call 15; refine (HTm.out w2 (HM.out.fr0 HF2.out)).mono ?_; rintro en w3 ⟨rfl, hfr⟩; have HF3 := hide (HF2.out.tr hfr); clear hfr))
      go_ret2
      exact ⟨rfl, HF3.out⟩
  · have d1 : decide ((n : Int) ≤ q) = true := decide_eq_true (by omega)
    have d2 : decide (n ≤ q) = true := decide_eq_true (by omega)
    rw [if_neg (fun k => hq k.1)]
    clear eX eY hq
    go_enter Try.func30, Try.ntmps30
    go_wp2_with (first
      | (go_at_call 63; refine HLo.out.mono ?_; rintro en w2 ⟨rfl, hfr⟩; have HF2 := hide hfr; clear hfr)
      | (go_at_call 14; refine (HLe.out w2 (HM.out.fr0 HF2.out)).mono ?_; rintro en w3 ⟨rfl, rfl⟩))
    go_ret2
    exact ⟨rfl, HF2.out⟩
end Go.Proofs.Ytcdhbdhhknlbaaa
namespace Go.Proofs.Ytcdhbdhhknlbaaa
set_option linter.unusedVariables false
set_option linter.unusedSimpArgs false
open Go.RowKit

/-- behind the last term that is at most a text. -/
def topT (l : List Tx) (s : Tx) : Nat := if lowT l s < l.length ∧ l.getD (lowT l s) [] = s then lowT l s + 1 else lowT l s

set_option maxRecDepth 100000 in
set_option maxHeartbeats 1600000 in
theorem drange_any (g B : Nat) (l : List Tx) (at_ : List Nat) (r s : Tx) (w : World) (h : DictM w B g l at_) :
    Calls Try.prog 31 #[.pointer (some ⟨g, 0, none⟩), .string ⟨r.toArray⟩, .string ⟨s.toArray⟩] w (fun en w' => en = .returned (.tuple #[.int .i64 (lowT l r : Nat), .int .i64 (max (lowT l r) (topT l s) : Nat)]) ∧ Fr No w w') := by
  have HL1 := hide (lower_any g B l at_ r w h)
  have HL2 := hide (fun W (hW : DictM W B g l at_) => lower_any g B l at_ s W hW)
  have HM := hide h
  have HLe := hide (fun W (hW : DictM W B g l at_) => dlen_any g B l.length _ _ W hW.mem)
  have HTm := hide (fun W (hW : DictM W B g l at_) => dterm_any g B l at_ W (lowT l s : Nat) hW)
  have hn := h.ok.1
  have p1 := lowT_le l r
  unfold topT
  clear h
  have eT : termAt l (lowT l s : Nat) = l.getD (lowT l s) [] := by unfold termAt; rw [if_pos (by omega), Int.toNat_natCast]
  rw [eT] at HTm
  clear eT
  have p2 := lowT_le l s
  generalize lowT l s = q at HL2 HTm p2 ⊢
  generalize lowT l r = p at HL1 p1 ⊢
  generalize l.getD q [] = t at HTm ⊢
  have hnn : l.length ≤ 1048576 := hn
  generalize hNl : l.length = n at HLe hnn p1 p2 ⊢
  clear hn hNl
  obtain ⟨X, hX⟩ : ∃ X : ByteArray, sv t = .string X := ⟨_, rfl⟩
  obtain ⟨Y, hY⟩ : ∃ Y : ByteArray, (⟨s.toArray⟩ : ByteArray) = Y := ⟨_, rfl⟩
  obtain ⟨Z, hZ⟩ : ∃ Z : ByteArray, (⟨r.toArray⟩ : ByteArray) = Z := ⟨_, rfl⟩
  have eX : X.toList = t := by
    unfold sv at hX
    injection hX with h
    rw [← h, tx_list]
  have eY : Y.toList = s := by rw [← hY, tx_list]
  rw [hX] at HTm
  rw [hY] at HL2 ⊢
  rw [hZ] at HL1 ⊢
  clear hX hY hZ
  by_cases hq : q < n
  · have d1 : decide ((q : Int) < n) = true := decide_eq_true (by omega)
    have d2 : decide (q < n) = true := decide_eq_true hq
    by_cases ht : t = s
    · have d3 : (X.toList == Y.toList) = true := by rw [eX, eY]; simpa using ht
      rw [if_pos ⟨hq, ht⟩]
      have em : ((max p (q + 1) : Nat) : Int) = max (p : Int) ((q : Int) + 1) := by omega
      rw [em]
      clear eX eY ht em
      go_enter Try.func31, Try.ntmps31
      go_wp2_with (first
        | (go_at_call 63; have mk := HF2; clear mk; refine (HL2.out w2 (HM.out.fr0 HF2.out)).mono ?_; rintro en w3 ⟨rfl, hfr⟩; have HF3 := hide (HF2.out.tr hfr); clear hfr HL2)
        | (go_at_call 63; refine HL1.out.mono ?_; rintro en w2 ⟨rfl, hfr⟩; have HF2 := hide hfr; clear hfr HL1)
        | (go_at_call 14; refine (HLe.out w3 (HM.out.fr0 HF3.out)).mono ?_; rintro en w4 ⟨rfl, rfl⟩)
        | (go_at_call 15; refine (HTm.out w3 (HM.out.fr0 HF3.out)).mono ?_; rintro en w4 ⟨rfl, hfr⟩; have HF4 := hide (HF3.out.tr hfr); clear hfr))
      go_ret2
      exact ⟨rfl, HF4.out⟩
    · have d3 : (X.toList == Y.toList) = false := by rw [eX, eY]; simpa using ht
      rw [if_neg (fun k => ht k.2)]
      have em : ((max p q : Nat) : Int) = max (p : Int) (q : Int) := by omega
      rw [em]
      clear eX eY ht em
      go_enter Try.func31, Try.ntmps31
      go_wp2_with (first
        | (go_at_call 63; have mk := HF2; clear mk; refine (HL2.out w2 (HM.out.fr0 HF2.out)).mono ?_; rintro en w3 ⟨rfl, hfr⟩; have HF3 := hide (HF2.out.tr hfr); clear hfr HL2)
        | (go_at_call 63; refine HL1.out.mono ?_; rintro en w2 ⟨rfl, hfr⟩; have HF2 := hide hfr; clear hfr HL1)
        | (go_at_call 14; refine (HLe.out w3 (HM.out.fr0 HF3.out)).mono ?_; rintro en w4 ⟨rfl, rfl⟩)
        | (go_at_call 15; refine (HTm.out w3 (HM.out.fr0 HF3.out)).mono ?_; rintro en w4 ⟨rfl, hfr⟩; have HF4 := hide (HF3.out.tr hfr); clear hfr))
      go_ret2
      exact ⟨rfl, HF4.out⟩
  · have d1 : decide ((q : Int) < n) = false := decide_eq_false (by omega)
    have d2 : decide (q < n) = false := decide_eq_false hq
    rw [if_neg (fun k => hq k.1)]
    have em : ((max p q : Nat) : Int) = max (p : Int) (q : Int) := by omega
    rw [em]
    clear eX eY em
    go_enter Try.func31, Try.ntmps31
    go_wp2_with (first
        | (go_at_call 63; have mk := HF2; clear mk; refine (HL2.out w2 (HM.out.fr0 HF2.out)).mono ?_; rintro en w3 ⟨rfl, hfr⟩; have HF3 := hide (HF2.out.tr hfr); clear hfr HL2)
        | (go_at_call 63; refine HL1.out.mono ?_; rintro en w2 ⟨rfl, hfr⟩; have HF2 := hide hfr; clear hfr HL1)
        | (go_at_call 14; refine (HLe.out w3 (HM.out.fr0 HF3.out)).mono ?_; rintro en w4 ⟨rfl, rfl⟩)
        | (go_at_call 15; refine (HTm.out w3 (HM.out.fr0 HF3.out)).mono ?_; rintro en w4 ⟨rfl, hfr⟩; have HF4 := hide (HF3.out.tr hfr); clear hfr))
    go_ret2
    exact ⟨rfl, HF3.out⟩
end Go.Proofs.Ytcdhbdhhknlbaaa
namespace Go.Proofs.Ytcdhbdhhknlbaaa
set_option linter.unusedVariables false
set_option linter.unusedSimpArgs false
open Go.RowKit

set_option maxRecDepth 100000 in
set_option maxHeartbeats 400000 in
theorem dterm_nil (o : Int) (w : World) : Calls Try.prog 15 #[.pointer none, .int .i64 o] w (fun en w' => en = .returned (sv []) ∧ Fr No w w') := by
  by_cases h0 : o < 0
  · have d1 : decide (o < 0) = true := decide_eq_true h0
    go_enter Try.func15, Try.ntmps15
    go_wp2_with (fail)
    go_ret
    exact ⟨rfl, Fr.refl _ _⟩
  · have d1 : decide (o < 0) = false := decide_eq_false h0
    have d2 : decide (0 ≤ o) = true := decide_eq_true (by omega)
    have d3 : 0 ≤ o := by omega
    go_enter Try.func15, Try.ntmps15
    go_wp2_with (go_at_call 14; refine (dlen_nil _).mono ?_; rintro en w2 ⟨rfl, rfl⟩)
    go_ret
    exact ⟨rfl, Fr.refl _ _⟩
set_option maxRecDepth 100000 in
set_option maxHeartbeats 400000 in
theorem dat_nil (o : Int) (w : World) : Calls Try.prog 16 #[.pointer none, .int .i64 o] w (fun en w' => en = .returned (.int .u64 0) ∧ Fr No w w') := by
  by_cases h0 : o < 0
  · have d1 : decide (o < 0) = true := decide_eq_true h0
    go_enter Try.func16, Try.ntmps16
    go_wp2_with (fail)
    go_ret
    exact ⟨rfl, Fr.refl _ _⟩
  · have d1 : decide (o < 0) = false := decide_eq_false h0
    have d2 : decide (0 ≤ o) = true := decide_eq_true (by omega)
    have d3 : 0 ≤ o := by omega
    go_enter Try.func16, Try.ntmps16
    go_wp2_with (go_at_call 14; refine (dlen_nil _).mono ?_; rintro en w2 ⟨rfl, rfl⟩)
    go_ret
    exact ⟨rfl, Fr.refl _ _⟩
set_option maxRecDepth 100000 in
set_option maxHeartbeats 400000 in
theorem lower_nil (s : ByteArray) (w : World) : Calls Try.prog 63 #[.pointer none, .string s] w (fun en w' => en = .returned (.int .i64 0) ∧ Fr No w w') := by
  go_enter Try.func63, Try.ntmps63
  go_wp2_with (go_at_call 14; refine (dlen_nil _).mono ?_; rintro en w2 ⟨rfl, rfl⟩)
  go_ret
  exact ⟨rfl, ((Fr.refl No w).alloc _).alloc _⟩
set_option maxRecDepth 100000 in
set_option maxHeartbeats 400000 in
theorem dfind_nil (s : ByteArray) (w : World) : Calls Try.prog 30 #[.pointer none, .string s] w (fun en w' => en = .returned (.tuple #[.int .i64 0, .bool false]) ∧ Fr No w w') := by
  go_enter Try.func30, Try.ntmps30
  go_wp2_with (first
    | (go_at_call 63; refine (lower_nil _ _).mono ?_; rintro en w2 ⟨rfl, hfr⟩; have HF2 := hide hfr; clear hfr)
    | (go_at_call 14; refine (dlen_nil _).mono ?_; rintro en w3 ⟨rfl, rfl⟩))
  go_ret2
  exact ⟨rfl, HF2.out⟩
set_option maxRecDepth 100000 in
set_option maxHeartbeats 400000 in
theorem drange_nil (r s : ByteArray) (w : World) : Calls Try.prog 31 #[.pointer none, .string r, .string s] w (fun en w' => en = .returned (.tuple #[.int .i64 0, .int .i64 0]) ∧ Fr No w w') := by
  go_enter Try.func31, Try.ntmps31
  go_wp2_with (first
    | (go_at_call 63; have mk := HF2; clear mk; refine (lower_nil _ _).mono ?_; rintro en w3 ⟨rfl, hfr⟩; have HF3 := hide (HF2.out.tr hfr); clear hfr)
    | (go_at_call 63; refine (lower_nil _ _).mono ?_; rintro en w2 ⟨rfl, hfr⟩; have HF2 := hide hfr; clear hfr)
    | (go_at_call 14; refine (dlen_nil _).mono ?_; rintro en w4 ⟨rfl, rfl⟩))
  go_ret2
  exact ⟨rfl, HF3.out⟩
end Go.Proofs.Ytcdhbdhhknlbaaa
namespace Go.Proofs.Ytcdhbdhhknlbaaa
set_option linter.unusedVariables false
set_option linter.unusedSimpArgs false
open Go.RowKit

def bodB (l : List Tx) (vs : List Nat) (j : Nat) : List UInt8 := (List.range j).flatMap fun i => blkT (blkOf l i) (valOf vs i)
theorem bodB_succ (l : List Tx) (vs : List Nat) (j : Nat) : bodB l vs (j + 1) = bodB l vs j ++ blkT (blkOf l j) (valOf vs j) := by simp [bodB, List.range_succ]
theorem tail_bod {l : List Tx} {at_ : List Nat} (hl : l.length = at_.length) : ∀ j, j ≤ nbT l.length → tailB l at_ 0 = bodB l at_ j ++ tailB l at_ (16 * j)
  | 0, _ => by simp [bodB]
  | j + 1, h => by
    have hj : 16 * j < l.length := by unfold nbT at h; omega
    rw [tail_bod hl j (by omega), tail_blk hl hj, bodB_succ, show 16 * (j + 1) = 16 * j + 16 by omega, List.append_assoc]
theorem dict_bod {l : List Tx} {at_ : List Nat} (hl : l.length = at_.length) : dictB l at_ = enc l.length ++ bodB l at_ (nbT l.length) := by
  rw [dictB, tail_bod hl (nbT l.length) (Nat.le_refl _), tailB_end (i := 16 * nbT l.length) (by unfold nbT; omega), List.append_nil]

/-- these are the terms and values of some bytes. -/
def Form9 (bs : List UInt8) (l : List Tx) (at_ : List Nat) : Prop := termsOk l at_ ∧ U64s at_ ∧ dictB l at_ = bs
theorem Form9.size {bs : List UInt8} {l : List Tx} {at_ : List Nat} (h : Form9 bs l at_) : sizeS bs 0 0 1048576 = (l.length, (enc l.length).length, 0) := by
  obtain ⟨⟨h1, h2, h3, h4⟩, h5, h6⟩ := h
  have := size_has (bs := bs) (a := 0) (u := l.length) (most := 1048576) (by omega) (by omega) (by rw [← h6, List.drop_zero, dictB]; exact List.prefix_append _ _)
  rwa [Nat.zero_add] at this
theorem Form9.rest {bs : List UInt8} {l : List Tx} {at_ : List Nat} (h : Form9 bs l at_) : bs.drop (enc l.length).length = tailB l at_ 0 := by
  rw [← h.2.2, dictB, List.drop_left]

theorem blk_app_lt {l r : List Tx} {i j : Nat} (hl : 16 * j ≤ l.length) (hi : i < j) : blkOf (l ++ r) i = blkOf l i := by
  unfold blkOf
  rw [List.drop_append_of_le_length (by omega), List.take_append_of_le_length (by rw [List.length_drop]; omega)]
theorem val_app_lt {l r : List Nat} {i j : Nat} (hl : 16 * j ≤ l.length) (hi : i < j) : valOf (l ++ r) i = valOf l i := by
  unfold valOf
  rw [List.drop_append_of_le_length (by omega), List.take_append_of_le_length (by rw [List.length_drop]; omega)]
theorem blk_app_eq {l r : List Tx} {j : Nat} (hl : l.length = 16 * j) (hr : r.length ≤ 16) : blkOf (l ++ r) j = r := by
  unfold blkOf
  rw [← hl, List.drop_left, List.take_of_length_le hr]
theorem val_app_eq {l r : List Nat} {j : Nat} (hl : l.length = 16 * j) (hr : r.length ≤ 16) : valOf (l ++ r) j = r := by
  unfold valOf
  rw [← hl, List.drop_left, List.take_of_length_le hr]
theorem bod_app {l r : List Tx} {vs us : List Nat} {j : Nat} (h1 : l.length = 16 * j) (h2 : vs.length = 16 * j) (h3 : r.length ≤ 16) (h4 : us.length ≤ 16) : bodB (l ++ r) (vs ++ us) (j + 1) = bodB l vs j ++ blkT r us := by
  rw [bodB_succ, blk_app_eq h1 h3, val_app_eq h2 h4]
  congr 1
  unfold bodB
  rw [List.flatMap_def, List.flatMap_def]
  congr 1
  refine List.map_congr_left fun i hi => ?_
  rw [List.mem_range] at hi
  rw [blk_app_lt (j := j) (by omega) hi, val_app_lt (j := j) (by omega) hi]

/-- how far Open is: j blocks are read. -/
structure OpA (bs : List UInt8) (n j a : Nat) (l : List Tx) (vs : List Nat) : Prop where
  len : l.length = min n (16 * j)
  lenv : vs.length = min n (16 * j)
  le : ∀ t ∈ l, t.length ≤ 4096
  asc : Asc l
  u64 : U64s vs
  n_le : n ≤ 1048576
  a_le : a ≤ bs.length
  pre : bs.take a = enc n ++ bodB l vs j
  cmp : ∀ L AT, Form9 bs L AT → L.length = n ∧ L.take (16 * j) = l ∧ AT.take (16 * j) = vs ∧ bs.drop a = tailB L AT (16 * j)

theorem OpA.start {bs : List UInt8} {n a : Nat} (h : sizeS bs 0 0 1048576 = (n, a, 0)) : OpA bs n 0 a [] [] := by
  have h2 := size_of (bs := bs) (a := 0) (e := 0) (most := 1048576) (by rw [h])
  rw [h] at h2
  obtain ⟨_, a1, a2, a3, a4⟩ := h2
  dsimp only at a1 a2 a3 a4
  rw [Nat.zero_add] at a4
  rw [List.drop_zero] at a3
  refine ⟨by simp, by simp, (fun t ht => nomatch ht), trivial, (fun t ht => nomatch ht), by omega, by rw [a4]; exact a3.length_le, ?_, ?_⟩
  · rw [a4, ← List.prefix_iff_eq_take.1 a3]
    simp [bodB]
  · intro L AT hf
    have h1 := hf.size
    rw [h] at h1
    injection h1 with h1 h3
    injection h3 with h3 _
    exact ⟨h1.symm, by simp, by simp, by rw [h3, Nat.mul_zero]; exact hf.rest⟩
/-- it begins with no form at all. -/
theorem form9_no_size {bs : List UInt8} (h : (sizeS bs 0 0 1048576).2.2 ≠ 0) : ∀ L AT, ¬ Form9 bs L AT := fun L AT hf => h (by rw [hf.size])

/-- what the next block of a form is. -/
theorem OpA.next {bs : List UInt8} {n j a : Nat} {l : List Tx} {vs : List Nat} (h : OpA bs n j a l vs) (hj : 16 * j < n) {L : List Tx} {AT : List Nat} (hf : Form9 bs L AT) :
    (rdT bs (min 16 (n - 16 * j)) a 0).1 = some (blkOf L j) ∧ rdV bs (min 16 (n - 16 * j)) [] (rdT bs (min 16 (n - 16 * j)) a 0).2.1 (rdT bs (min 16 (n - 16 * j)) a 0).2.2 = (valOf AT j, a + (blkT (blkOf L j) (valOf AT j)).length, 0) ∧
    bs.drop (a + (blkT (blkOf L j) (valOf AT j)).length) = tailB L AT (16 * j + 16) := by
  obtain ⟨c1, c2, c3, c4⟩ := h.cmp L AT hf
  obtain ⟨⟨f1, f2, f3, f4⟩, f5, f6⟩ := hf
  have hb := blkOf_len L j
  have hv := valOf_len AT j
  have h1 : min 16 (n - 16 * j) = (blkOf L j).length := by omega
  rw [tail_blk f2 (by omega)] at c4
  have h2 := blk_has (bs := bs) (l := blkOf L j) (vs := valOf AT j) (a := a) (by omega) (by omega) (fun t ht => f3 t (mem_blk ht)) (asc_blk f4 j) (fun v hv => f5 v (mem_val hv)) (by rw [c4]; exact List.prefix_append _ _)
  obtain ⟨h2, h3⟩ := h2
  rw [h1]
  refine ⟨by rw [h2], by rw [h2]; exact h3, ?_⟩
  rw [← List.drop_drop, c4, List.drop_left]
/-- the block is none: there is no form. -/
theorem OpA.bad {bs : List UInt8} {n j a : Nat} {l : List Tx} {vs : List Nat} (h : OpA bs n j a l vs) (hj : 16 * j < n)
    (hb : (rdT bs (min 16 (n - 16 * j)) a 0).1 = none ∨ (rdV bs (min 16 (n - 16 * j)) [] (rdT bs (min 16 (n - 16 * j)) a 0).2.1 (rdT bs (min 16 (n - 16 * j)) a 0).2.2).2.2 ≠ 0) : ∀ L AT, ¬ Form9 bs L AT := fun L AT hf => by
  obtain ⟨h1, h2, _⟩ := h.next hj hf
  rcases hb with hb | hb
  · rw [h1] at hb; cases hb
  · rw [h2] at hb; exact hb rfl
/-- the block does not rise. -/
theorem OpA.falls {bs : List UInt8} {n j a : Nat} {l b : List Tx} {vs : List Nat} (h : OpA bs n j a l vs) (hj : 16 * j < n) (h0 : 0 < j) (hr : (rdT bs (min 16 (n - 16 * j)) a 0).1 = some b)
    (hb : ¬ l.getD (16 * j - 1) [] < b.getD 0 []) : ∀ L AT, ¬ Form9 bs L AT := fun L AT hf => by
  obtain ⟨h1, h2, _⟩ := h.next hj hf
  obtain ⟨c1, c2, c3, c4⟩ := h.cmp L AT hf
  rw [h1] at hr
  injection hr with hr
  refine hb ?_
  rw [← hr, ← c2, blkOf_get (by omega)]
  have e : (L.take (16 * j)).getD (16 * j - 1) [] = L.getD (16 * j - 1) [] := by
    simp [List.getElem?_take, show 16 * j - 1 < 16 * j by omega]
  rw [e]
  exact hf.1.2.2.2.lt (by omega) (by omega)
theorem asc_join {l b : List Tx} (hl : Asc l) (hb : Asc b) (h : l ≠ [] → b ≠ [] → l.getD (l.length - 1) [] < b.getD 0 []) : Asc (l ++ b) := by
  rw [asc_iff]
  intro i hi
  rw [List.length_append] at hi
  have g1 : ∀ k, k < l.length → (l ++ b).getD k [] = l.getD k [] := fun k hk => by simp [List.getElem?_append_left hk]
  have g2 : ∀ k, l.length ≤ k → (l ++ b).getD k [] = b.getD (k - l.length) [] := fun k hk => by simp [List.getElem?_append_right hk]
  by_cases h1 : i + 1 < l.length
  · rw [g1 i (by omega), g1 (i + 1) h1]
    exact (asc_iff l).1 hl i h1
  · by_cases h2 : i < l.length
    · rw [g1 i h2, g2 (i + 1) (by omega), show i = l.length - 1 by omega, show l.length - 1 + 1 - l.length = 0 by omega]
      exact h (fun e => by rw [e] at h2; simp at h2) (fun e => by rw [e] at hi; simp at hi; omega)
    · rw [g2 i (by omega), g2 (i + 1) (by omega), show i + 1 - l.length = i - l.length + 1 by omega]
      exact (asc_iff b).1 hb _ (by omega)
/-- one block more. -/
theorem OpA.step {bs : List UInt8} {n j a a' : Nat} {l b : List Tx} {vs us : List Nat} (h : OpA bs n j a l vs) (hj : 16 * j < n) (h1 : (rdT bs (min 16 (n - 16 * j)) a 0).1 = some b)
    (h2 : rdV bs (min 16 (n - 16 * j)) [] (rdT bs (min 16 (n - 16 * j)) a 0).2.1 (rdT bs (min 16 (n - 16 * j)) a 0).2.2 = (us, a', 0)) (hup : 0 < j → l.getD (16 * j - 1) [] < b.getD 0 []) :
    OpA bs n (j + 1) a' (l ++ b) (vs ++ us) ∧ a' = a + (blkT b us).length ∧ (bs.take a').drop a = blkT b us ∧ b.length = min 16 (n - 16 * j) ∧ us.length = min 16 (n - 16 * j) := by
  obtain ⟨us', q1, q2, q3, q4, q5, q6, q7, q8, q9⟩ := blk_of (bs := bs) (l := b) (n := min 16 (n - 16 * j)) (a := a) (e := 0) (by omega) h1 (by rw [h2])
  rw [h2] at q4
  injection q4 with e1 e2
  injection e2 with e2 _
  subst e1
  subst e2
  obtain ⟨p1, p2, p3, p4, p5, p6, p7, p8, p9⟩ := h
  have hl : l.length = 16 * j := by omega
  have hv : vs.length = 16 * j := by omega
  have hle := q9.length_le
  rw [List.length_drop] at hle
  have et : bs.take (a + (blkT b us).length) = bs.take a ++ blkT b us := by
    obtain ⟨r, hr⟩ := q9
    have : bs = bs.take a ++ (blkT b us ++ r) := by rw [hr, List.take_append_drop]
    have h3 : (bs.take a).length = a := by rw [List.length_take]; omega
    conv => lhs; rw [this]
    rw [List.take_append, h3, List.take_of_length_le (by omega), Nat.add_sub_cancel_left, List.take_left]
  refine ⟨⟨by rw [List.length_append]; omega, by rw [List.length_append]; omega, ?_, ?_, ?_, p6, by omega, ?_, ?_⟩, rfl, ?_, q1, q2⟩
  · intro t ht
    rcases List.mem_append.1 ht with ht | ht
    · exact p3 t ht
    · exact q6 t ht
  · refine asc_join p4 q7 (fun hn _ => ?_)
    have : 0 < l.length := List.length_pos_iff.2 hn
    rw [hl]
    exact hup (by omega)
  · intro t ht
    rcases List.mem_append.1 ht with ht | ht
    · exact p5 t ht
    · exact q8 t ht
  · rw [et, p8, bod_app hl hv (by omega) (by omega), List.append_assoc]
  · intro L AT hf
    obtain ⟨r1, r2, r3⟩ := (⟨p1, p2, p3, p4, p5, p6, p7, p8, p9⟩ : OpA bs n j a l vs).next hj hf
    obtain ⟨c1, c2, c3, c4⟩ := p9 L AT hf
    rw [h1] at r1
    injection r1 with r1
    rw [h2] at r2
    injection r2 with r2 r4
    refine ⟨c1, ?_, ?_, ?_⟩
    · rw [show 16 * (j + 1) = 16 * j + 16 by omega, List.take_add, c2, r1]
      rfl
    · rw [show 16 * (j + 1) = 16 * j + 16 by omega, List.take_add, c3, r2]
      rfl
    · rw [r1, r2, r3, show 16 * (j + 1) = 16 * j + 16 by omega]
  · rw [et, List.drop_append, show (bs.take a).length = a by rw [List.length_take]; omega]
    simp
theorem OpA.fin {bs : List UInt8} {n j a : Nat} {l : List Tx} {vs : List Nat} (h : OpA bs n j a l vs) (hj : n ≤ 16 * j) (hj2 : j = nbT n) (ha : a = bs.length) : Form9 bs l vs ∧ l.length = n := by
  obtain ⟨p1, p2, p3, p4, p5, p6, p7, p8, p9⟩ := h
  refine ⟨⟨⟨by omega, by omega, p3, p4⟩, p5, ?_⟩, by omega⟩
  rw [dict_bod (by omega), show l.length = n by omega, ← hj2, ← p8, ha, List.take_length]
theorem OpA.left {bs : List UInt8} {n j a : Nat} {l : List Tx} {vs : List Nat} (h : OpA bs n j a l vs) (hj : n ≤ 16 * j) (ha : a < bs.length) : ∀ L AT, ¬ Form9 bs L AT := fun L AT hf => by
  obtain ⟨c1, _, _, c4⟩ := h.cmp L AT hf
  rw [tailB_end (by omega)] at c4
  have := congrArg List.length c4
  rw [List.length_drop] at this
  simp at this
  omega

/-- one form has one list of terms and values. -/
theorem form9_inj {bs : List UInt8} {l l' : List Tx} {at_ at' : List Nat} (h : Form9 bs l at_) (h' : Form9 bs l' at') : l = l' ∧ at_ = at' := by
  have key : ∀ j, j ≤ nbT l.length → OpA bs l.length j ((enc l.length).length + (bodB l at_ j).length) (l.take (16 * j)) (at_.take (16 * j)) := by
    intro j
    induction j with
    | zero =>
      intro _
      have := OpA.start h.size
      simpa [bodB] using this
    | succ j ih =>
      intro hj
      have hj2 : 16 * j < l.length := by unfold nbT at hj; omega
      have h0 := ih (by omega)
      obtain ⟨r1, r2, r3⟩ := h0.next hj2 h
      have h1 := h0.step hj2 r1 r2 (fun h3 => by
        have e : (l.take (16 * j)).getD (16 * j - 1) [] = l.getD (16 * j - 1) [] := by
          simp [List.getElem?_take, show 16 * j - 1 < 16 * j by omega]
        rw [e, blkOf_get (by omega)]
        exact h.1.2.2.2.lt (by omega) (by omega))
      have h2 := h1.1
      rw [bodB_succ, List.length_append, ← Nat.add_assoc, show 16 * (j + 1) = 16 * j + 16 by omega, List.take_add, List.take_add]
      exact h2
  obtain ⟨c1, c2, c3, _⟩ := (key (nbT l.length) (Nat.le_refl _)).cmp l' at' h'
  have e1 := h.1.2.1
  have e2 := h'.1.2.1
  rw [List.take_of_length_le (by unfold nbT; omega), List.take_of_length_le (by unfold nbT; omega)] at c2
  rw [List.take_of_length_le (by unfold nbT; omega), List.take_of_length_le (by unfold nbT; omega)] at c3
  exact ⟨c2.symm, c3.symm⟩
end Go.Proofs.Ytcdhbdhhknlbaaa
namespace Go.Proofs.Ytcdhbdhhknlbaaa
set_option linter.unusedVariables false
set_option linter.unusedSimpArgs false
open Go.RowKit

/-- append inside a region that draws its order. -/
theorem step_append_any {P : Program} {ops : Array Oper} {o : Oper} {a : Act} {w : World} {K : Act → World → Prop} {Q : Exit → Act → World → Prop} {E : Prop} (hgd : o.guard = none) (s x : Operand) (t tx : TypeId)
    (ho : o.op = .call { callee := .builtin .append, args := #[s, x], argTypes := #[t, tx] })
    (base : Nat) (e : TypeId) (i : TypeInfo) (z : Value) (size bytes : Nat) (ht : P.underlying t = some (.slice e)) (hi : P.info? e = some i) (hz : i.zero = some z)
    (hsize : i.size = size) (hby : i.bytes = bytes) (hzs : z.cells.size = size)
    (v : Value) (n : Nat) (xs : List Value) (hs : a.eval s = v) (hown : Own w base e size v n xs)
    (y : Value) (m : Nat) (news : List Value) (hx : a.eval x = y) (hsrc : Src P size tx y m news w)
    (hbytes : (n + m) * bytes ≤ 140737488355328) (h63 : n + m ≤ maxLen) (hbase : base ≤ w.heap.size)
    (h : ∀ v' w', Own w' base e size v' (n + m) (xs ++ news) → Fr (fun k => v.ownBlock = some k) w w' → K (a.put o.dst v') w') :
    if Region.wanted o (yielded ops a.tmps) = true then Oper.wp P o a w K Q else E := by
  have hw : Region.wanted o (yielded ops a.tmps) = true := by simp [Region.wanted, hgd]
  rw [if_pos hw]
  exact wp_append_gen w s x t tx ho base e i z size bytes ht hi hz hsize hby hzs v n xs hs hown y m news hx hsrc hbytes h63 hbase fun v' w' h2 h3 _ => h v' w' h2 h3

end Go.Proofs.Ytcdhbdhhknlbaaa
namespace Go.Proofs.Ytcdhbdhhknlbaaa
set_option linter.unusedVariables false
set_option linter.unusedSimpArgs false
open Go.RowKit

set_option maxRecDepth 100000 in
set_option maxHeartbeats 400000 in
theorem end_any (g : Nat) (bs : List UInt8) (a : Nat) (e : Int) (w : World) (h : RD w g bs a e) :
    Calls Try.prog 46 #[.pointer (some ⟨g, 0, none⟩)] w (RDRet (.int .i64 (endE bs a e)) w g bs a (endE bs a e)) := by
  obtain ⟨A, c, ⟨c0, c1, c2⟩, hf, h1, h2, h3, h4, hr⟩ := h.parts
  have H := hide h
  clear h hr
  by_cases he : e = 0
  · subst he
    by_cases hlt : a < bs.length
    · have HE := hide (show endE bs a 0 = 20 from if_pos ⟨rfl, hlt⟩)
      have hpos : 0 < bs.length - a := by omega
      go_enter Try.func46, Try.ntmps46
      go_wp2_with (first | (go_at_call 42; refine (left_any g bs a 0 _ H.out).mono ?_; rintro en w' ⟨rfl, nq, rfl⟩) | (go_at_call 70; refine (err_any g bs a 20 _ ((H.out.drewN nq).set2 20)).mono ?_; rintro en w' ⟨rfl, rfl⟩))
      go_ret
      refine ⟨by rw [HE.out]; rfl, ?_, ((Fr.refl _ _).drewN _).put _ _⟩
      rw [HE.out]
      exact (H.out.drewN _).set2 20
    · have HE := hide (show endE bs a 0 = 0 from if_neg (fun h => hlt h.2))
      have hpos : bs.length - a = 0 := by omega
      go_enter Try.func46, Try.ntmps46
      go_wp2_with (first | (go_at_call 42; refine (left_any g bs a 0 _ H.out).mono ?_; rintro en w' ⟨rfl, nq, rfl⟩) | (go_at_call 70; refine (err_any g bs a 0 _ (H.out.drewN nq)).mono ?_; rintro en w' ⟨rfl, rfl⟩))
      go_ret
      refine ⟨by rw [HE.out]; rfl, ?_, (Fr.refl _ _).drewN _⟩
      rw [HE.out]
      exact H.out.drewN _
  · have HE := hide (show endE bs a e = e from if_neg (fun h => he h.1))
    have hb : (e == 0) = false := by simpa using he
    go_enter Try.func46, Try.ntmps46
    go_wp2_with (go_at_call 70; refine (err_any g bs a e _ H.out).mono ?_; rintro en w' ⟨rfl, rfl⟩)
    go_ret
    refine ⟨by rw [HE.out]; rfl, ?_, Fr.refl _ _⟩
    rw [HE.out]
    exact H.out

set_option maxRecDepth 100000 in
set_option maxHeartbeats 400000 in
theorem end_nil (w : World) : Calls Try.prog 46 #[.pointer none] w (Ret (.int .i64 20) w) := by
  go_enter Try.func46, Try.ntmps46
  go_wp2_with (go_at_call 70; refine (err_nil _).mono ?_; rintro en w' ⟨rfl, rfl⟩)
  go_ret
  exact ⟨rfl, rfl⟩

end Go.Proofs.Ytcdhbdhhknlbaaa
namespace Go.Proofs.Ytcdhbdhhknlbaaa
set_option linter.unusedVariables false
set_option linter.unusedSimpArgs false
open Go.RowKit

def bssJ (l : List Tx) (vs : List Nat) (j : Nat) : List (List UInt8) := (List.range j).map fun i => blkT (blkOf l i) (valOf vs i)
def fsJ (l : List Tx) (j : Nat) : List Tx := (List.range j).map fun i => l.getD (16 * i) []
theorem bssJ_len (l : List Tx) (vs : List Nat) (j : Nat) : (bssJ l vs j).length = j := by simp [bssJ]
theorem fsJ_len (l : List Tx) (j : Nat) : (fsJ l j).length = j := by simp [fsJ]
theorem bssJ_snoc {l r : List Tx} {vs us : List Nat} {j : Nat} (h1 : l.length = 16 * j) (h2 : vs.length = 16 * j) (h3 : r.length ≤ 16) (h4 : us.length ≤ 16) : bssJ (l ++ r) (vs ++ us) (j + 1) = bssJ l vs j ++ [blkT r us] := by
  unfold bssJ
  rw [List.range_succ, List.map_append]
  congr 1
  · refine List.map_congr_left fun i hi => ?_
    rw [List.mem_range] at hi
    rw [blk_app_lt (j := j) (by omega) hi, val_app_lt (j := j) (by omega) hi]
  · rw [List.map_singleton, blk_app_eq h1 h3, val_app_eq h2 h4]
theorem fsJ_snoc {l r : List Tx} {j : Nat} (h1 : l.length = 16 * j) (h3 : 0 < r.length) : fsJ (l ++ r) (j + 1) = fsJ l j ++ [r.getD 0 []] := by
  unfold fsJ
  rw [List.range_succ, List.map_append]
  congr 1
  · refine List.map_congr_left fun i hi => ?_
    rw [List.mem_range] at hi
    simp [List.getElem?_append_left (show 16 * i < l.length by omega)]
  · rw [List.map_singleton]
    simp [← h1, List.getElem?_append_right (Nat.le_refl l.length)]
theorem bssJ_fin {l : List Tx} {vs : List Nat} {n : Nat} (h : l.length = n) : bssJ l vs (nbT n) = bssT l vs := by unfold bssJ bssT; rw [h]
theorem fsJ_fin {l : List Tx} {n : Nat} (h : l.length = n) : fsJ l (nbT n) = fsT l := by unfold fsJ fsT; rw [h]

theorem Vals.off {S : Nat → Prop} {w w' : World} {base : Nat} {vals : List Value} {bss : List (List UInt8)} (h : Vals w base vals bss) (f : Fr S w w') (hS : Off S w 5) : Vals w' base vals bss :=
  h.fr f (fun j v hv k hk => by
    obtain ⟨bs, _, ho⟩ := h.get hv
    obtain ⟨_, cs, fz, hh⟩ := ho.cellsT hk
    exact hS k cs fz hh)
theorem DictB.off {S : Nat → Prop} {w w' : World} {B g n : Nat} {bss : List (List UInt8)} {fs : List Tx} (h : DictB w B g bss fs n) (f : Fr S w w') (h1 : Off S w 75) (h2 : Off S w 24) (h3 : Off S w 5) (h4 : Off S w 9) : DictB w' B g bss fs n := by
  obtain ⟨lo, vb, vf, vals, q1, q2, q3, q4⟩ := h
  exact ⟨lo, vb, vf, vals, f.blk q1 (h1 _ _ _ q1), q2.off f h2, q3.off f h3, q4.off f h4⟩

/-- the state between two blocks. -/
structure OpM (w W : World) (g G : Nat) (bs : List UInt8) (n j a : Nat) (e : Int) (l : List Tx) (vs : List Nat) : Prop where
  rd : RD W g bs a e
  gB : w.heap.size ≤ g
  dict : DictB W w.heap.size G (bssJ l vs j) (fsJ l j) n
  fr : Fr No w W
theorem RD.blkg {w : World} {g : Nat} {bs : List UInt8} {a : Nat} {e : Int} (h : RD w g bs a e) : ∃ cs fz, w.heap[g]? = some (.cells cs 94 fz) := by
  obtain ⟨A, c, hh, _⟩ := h
  exact ⟨_, _, hh⟩
theorem OpM.read {w W W' : World} {g G : Nat} {bs : List UInt8} {n j a a' : Nat} {e e' : Int} {l : List Tx} {vs : List Nat} (h : OpM w W g G bs n j a e l vs) (f : Fr (Is g) W W') (hr : RD W' g bs a' e') : OpM w W' g G bs n j a' e' l vs := by
  obtain ⟨cs, fz, hh⟩ := h.rd.blkg
  refine ⟨hr, h.gB, h.dict.off f (off_is hh (by decide)) (off_is hh (by decide)) (off_is hh (by decide)) (off_is hh (by decide)), h.fr.trans f (fun i hi e => by have e : i = g := e; have := h.gB; omega)⟩
theorem OpM.fr0 {w W W' : World} {g G : Nat} {bs : List UInt8} {n j a : Nat} {e : Int} {l : List Tx} {vs : List Nat} (h : OpM w W g G bs n j a e l vs) (f : Fr No W W') : OpM w W' g G bs n j a e l vs :=
  ⟨h.rd.fr0 f, h.gB, h.dict.fr0 f, h.fr.tr f⟩

def OpenP (w : World) (bs : List UInt8) (en : Ending) (w' : World) : Prop :=
  Fr No w w' ∧ ((∃ G l vs, Form9 bs l vs ∧ en = .returned (.tuple #[.pointer (some ⟨G, 0, none⟩), .int .i64 0]) ∧ DictM w' w.heap.size G l vs) ∨ ((∀ l vs, ¬ Form9 bs l vs) ∧ en = .returned (.tuple #[.pointer none, .int .i64 20])))
end Go.Proofs.Ytcdhbdhhknlbaaa
namespace Go.Proofs.Ytcdhbdhhknlbaaa
set_option linter.unusedVariables false
set_option linter.unusedSimpArgs false
open Go.RowKit

/-- blocks of one type, from B on. -/
def OfT (t : TypeId) (B : Nat) (A : World) : Nat → Prop := fun k => B ≤ k ∧ ∃ cs fz, A.heap[k]? = some (.cells cs t fz)
/-- blocks from B on that hold no cells of another type. -/
def Loose (t : TypeId) (B : Nat) (A : World) : Nat → Prop := fun k => B ≤ k ∧ ∀ cs t' fz, A.heap[k]? = some (.cells cs t' fz) → t' = t
def AbT {β : Type} (t : TypeId) (B : Nat) (J : β → World → Prop) : Prop := ∀ s A A', J s A → Fr (OfT t B A) A A' → J s A'
def AbL {β : Type} (t : TypeId) (B : Nat) (J : β → World → Prop) : Prop := ∀ s A A', J s A → Fr (Loose t B A) A A' → J s A'
theorem OfT.loose {t : TypeId} {B B' : Nat} {A : World} {k : Nat} (h : OfT t B A k) (hB : B' ≤ B) : Loose t B' A k := by
  obtain ⟨h1, cs, fz, h2⟩ := h
  refine ⟨Nat.le_trans hB h1, fun cs' t' fz' h3 => ?_⟩
  rw [h2] at h3
  injection h3 with h3
  injection h3 with _ h3 _
  exact h3.symm
theorem AbL.abT {β : Type} {t : TypeId} {B B' : Nat} {J : β → World → Prop} (h : AbL t B J) (hB : B ≤ B') : AbT t B' J := fun s A A' hj f => h s A A' hj (f.mono (fun _ _ hk => hk.loose hB))
theorem AbL.put {β : Type} {t : TypeId} {B : Nat} {J : β → World → Prop} (h : AbL t B J) {s : β} {W : World} (hj : J s W) {l : Nat} {o o' : Obj} (hl : B ≤ l) (hk : W.heap[l]? = some o) (ho : o.isCells = false) : J s (W.putObj l o') :=
  h s _ _ hj ((Fr.of_grown (grownBy_putObj' W l o')).mono (fun i _ e => by
    have e : i = l := (Option.some.inj e).symm
    subst e
    refine ⟨hl, fun cs t' fz h2 => ?_⟩
    rw [hk] at h2
    injection h2 with h2
    subst h2
    cases ho))
theorem AbL.new {β : Type} {t : TypeId} {B : Nat} {J : β → World → Prop} (h : AbL t B J) {s : β} {W : World} (hj : J s W) (o : Obj) : J s (W.alloc o) := h s _ _ hj ((Fr.refl _ W).alloc o)
theorem OfT.other {t : TypeId} {B : Nat} {A A' : World} (f : Fr (OfT t B A) A A') {k : Nat} {o : Obj} (hk : A.heap[k]? = some o) (ho : o.isCells = false) : A'.heap[k]? = some o :=
  f.blk hk (fun h => by
    obtain ⟨_, cs, fz, h2⟩ := h
    rw [hk] at h2
    injection h2 with h2
    subst h2
    cases ho)

/-- the iterator's contract. -/
def SeqMem {α : Type} (F : Fence) (n : Nat) (P : Program) (g : Nat) (lb : Array Value) (encs : α → Array Value) (t : TypeId) (Kp : World → World → Prop) (Gd : α → World → Prop) (S Sp Pn : List α → Prop) (ch : List PanicEntry) (N : Nat) (w : World) : Prop :=
  ∀ (l : Nat) (J Jx : List α → World → Prop) (W : World), Fr No w W → AbT t W.heap.size J → AbT t W.heap.size Jx →
    (∀ pre x W1, J pre W1 → Gd x W1 → pre.length < N → YieldAt F (n - 1) P l (encs x) W1 fun e W' =>
      (e = .returned (.bool true) ∧ J (pre ++ [x]) W' ∧ Kp W1 W') ∨ (e = .returned (.bool false) ∧ Jx (pre ++ [x]) W')) →
    J [] W →
    CallsIn F n P g (#[.func (.yield l) #[] #[]] ++ lb) W fun e W' => ((∃ v, e = .returned v) ∧ ((∃ xs, S xs ∧ J xs W') ∨ (∃ pre, Sp pre ∧ Jx pre W'))) ∨ (∃ pre, Pn pre ∧ e = .panicked ch ∧ J pre W')

variable {F : Fence} {n : Nat} {P : Program} {w : World}
theorem wpIn_rangeFunc_mem {α : Type} {g : Operand} {ps : Array Tmp} {assign body : Code} {Q : Exit → Act → World → Prop} {a : Act} {w : World}
    (hro : F.round = none) (h1 : 1 ≤ n) {gf : Nat} {lb : Array Value} (hg : a.eval g = .func (.func gf) #[] lb) (hFg : F.fn gf) (eg : ∀ args w, (callFunc gf args).run P w = .ok (.enter gf args) w)
    {encs : α → Array Value} {t : TypeId} {Kp : World → World → Prop} {Gd : α → World → Prop} {S Sp Pn : List α → Prop} {ch : List PanicEntry} {N : Nat} {w0 : World} (hseq : SeqMem F (n - 1) P gf lb encs t Kp Gd S Sp Pn ch N w0)
    (hKt : ∀ {A B C : World}, Kp A B → Kp B C → Kp A C) (hKb : ∀ (W : World) (l : Nat) (o o' : Obj), W.heap[l]? = some o → o.isCells = false → Kp W (W.putObj l o'))
    (hGb : ∀ (x : α) (W : World) (l : Nat) (o o' : Obj), Gd x W → W.heap[l]? = some o → o.isCells = false → Gd x (W.putObj l o'))
    (hb0 : Fr No w0 w) (hps : ∀ x, (encs x).size = ps.size)
    (I : List α → World → Prop) (Ix : Code → List α → World → Prop) (hI : AbL t w.heap.size I) (hIx : ∀ c, AbL t w.heap.size (Ix c)) (h0 : I [] w) (a₁ : α → Act)
    (hassign : ∀ (l : Nat) (x : α) (W : World) (K : Act → World → Prop), K (a₁ x) W →
      assign.wpIn (F.inRound l) (n - 1 - 1) P (Exit.then K (fun _ _ _ => False)) { tmps := (ps.zip (encs x)).foldl (fun t (p, v) => t.setIfInBounds p v) a.tmps, defers := [] } W)
    (hbody : ∀ (l : Nat) (pre : List α) (x : α) (W : World), I pre W → Gd x W → pre.length < N → body.wpIn (F.inRound l) (n - 1 - 1) P (ownPostG w.heap.size Kp I Ix (pre ++ [x]) W) (a₁ x) W)
    (hdone : ∀ (D : Nat) (xs : List α) (W : World), w.heap.size ≤ D → S xs → I xs W → W.heap[D]? = some (.deferred (some [])) → Q .normal { a with defers := { target := .collected D, args := #[] } :: a.defers } W)
    (hstop : ∀ (D : Nat) (c : Code) (pre : List α) (W : World), w.heap.size ≤ D → Sp pre → Ix c pre W → W.heap[D]? = some (.deferred (some [])) → c.wpIn F n P Q { a with defers := { target := .collected D, args := #[] } :: a.defers } W)
    (hpanic : ∀ (D : Nat) (pre : List α) (W : World), w.heap.size ≤ D → Pn pre → I pre W → W.heap[D]? = some (.deferred (some [])) → Q (.panic ch) { a with defers := { target := .collected D, args := #[] } :: a.defers } W) :
    (Code.rangeFunc g ps assign body).wpIn F n P Q a w := by
  refine wpIn_rangeFunc ?_
  intro fn hfn
  rw [hro]
  obtain ⟨rec, hrec⟩ : ∃ rec : LoopState → Option Code → Loop, rec = fun st pe => { state := st, pending := pe, fn, tmps := a.tmps, params := ps, assign, body, defers := w.heap.size } := ⟨_, rfl⟩
  obtain ⟨W1, hW1⟩ : ∃ W1, (w.alloc (.deferred (some []))).alloc (.loop (rec .ready none)) = W1 := ⟨_, rfl⟩
  have hL1 : W1.heap[w.heap.size + 1]? = some (.loop (rec .ready none)) := by
    rw [← hW1]; have := World.alloc_heap_new (w.alloc (.deferred (some []))) (.loop (rec .ready none)); rwa [World.size_alloc] at this
  have hK1 : W1.heap[w.heap.size]? = some (.deferred (some [])) := by
    rw [← hW1]; exact (Below.heap_alloc _ _ _ (by simp)).trans (World.alloc_heap_new w _)
  have hI1 : I [] W1 := by rw [← hW1]; exact hI.new (hI.new h0 _) _
  have hb1 : Fr No w0 W1 := by rw [← hW1]; exact (hb0.alloc _).alloc _
  have hsz1 : w.heap.size ≤ W1.heap.size := by rw [← hW1]; simp; omega
  refine ⟨w.heap.size + 1, [{ target := .collected w.heap.size, args := #[] }], W1, { target := .fn (.func gf) lb, args := #[.func (.yield (w.heap.size + 1)) #[] #[]] }, W1, gf,
    #[.func (.yield (w.heap.size + 1)) #[] #[]] ++ lb, W1, ?_, ?_, ?_, ?_, fun _ => h1, ?_⟩
  · rw [← hW1, hrec]; exact run_enterLoop_outer _ _ _ _ _
  · simp only [resolve, hg]
    simp [go_sem]
  · intro f' hf'; simp [Target.leads] at hf'; subst hf'; exact hFg
  · simp [invoke, go_sem, eg]
  · refine (hseq (w.heap.size + 1)
      (fun pre W => I pre W ∧ W.heap[w.heap.size + 1]? = some (.loop (rec .ready none)) ∧ W.heap[w.heap.size]? = some (.deferred (some [])))
      (fun pre W => ∃ c, Ix c pre W ∧ W.heap[w.heap.size + 1]? = some (.loop (rec .done (some c))) ∧ W.heap[w.heap.size]? = some (.deferred (some [])))
      W1 hb1
      (fun s A A' hs f => ⟨hI.abT hsz1 s A A' hs.1 f, OfT.other f hs.2.1 rfl, OfT.other f hs.2.2 rfl⟩)
      (fun s A A' hs f => by
        obtain ⟨c, hc, hl, hk⟩ := hs
        exact ⟨c, (hIx c).abT hsz1 s A A' hc f, OfT.other f hl rfl, OfT.other f hk rfl⟩)
      ?_ ⟨hI1, hL1, hK1⟩).mono ?_
    · rintro pre x W ⟨hi, hl, hk⟩ hgx hlen
      have hlt : w.heap.size + 1 < W.heap.size := (Array.getElem?_eq_some_iff.1 hl).1
      have hy := run_yield (P := P) (args := encs x) hl (by rw [hrec]; exact hps x)
      rw [hrec] at hy
      refine ⟨fn, _, assign, body, hy, roundIn_of_wpIn hfn (hassign _ x W _ ?_)⟩
      clear hy
      refine ⟨_, run_beginRound hl (by rw [hrec]), ?_⟩
      have hl2 : (W.putObj (w.heap.size + 1) (.loop { rec .ready none with state := .busy })).heap[w.heap.size + 1]? = some (.loop { rec .ready none with state := .busy }) := World.putObj_heap_same hlt
      have hk2 : (W.putObj (w.heap.size + 1) (.loop { rec .ready none with state := .busy })).heap[w.heap.size]? = some (.deferred (some [])) := (World.putObj_heap_other (by omega)).trans hk
      have hw2 : Kp W (W.putObj (w.heap.size + 1) (.loop { rec .ready none with state := .busy })) := hKb _ _ _ _ hl rfl
      refine wpIn_mono (hbody _ pre x _ (hI.put hi (by omega) hl rfl) (hGb _ _ _ _ _ hgx hl rfl) hlen) ?_
      have fin : ∀ (jump : Option Code) (W3 : World), KeepsFrom w.heap.size (W.putObj (w.heap.size + 1) (.loop { rec .ready none with state := .busy })) W3 →
          (Instr.endRound (w.heap.size + 1) jump).run P W3 = .ok (.bool jump.isNone) (W3.putObj (w.heap.size + 1) (.loop (rec (if jump.isNone then .ready else .done) jump))) ∧
          W3.heap[w.heap.size + 1]? = some (.loop { rec .ready none with state := .busy }) ∧
          (W3.putObj (w.heap.size + 1) (.loop (rec (if jump.isNone then .ready else .done) jump))).heap[w.heap.size + 1]? = some (.loop (rec (if jump.isNone then .ready else .done) jump)) ∧
          (W3.putObj (w.heap.size + 1) (.loop (rec (if jump.isNone then .ready else .done) jump))).heap[w.heap.size]? = some (.deferred (some [])) := fun jump W3 hk3 => by
        have hl3 := hk3.same _ _ (by omega) hl2 rfl
        have := run_endRound (P := P) jump hl3
        rw [hrec] at this ⊢
        exact ⟨this, by rw [hrec] at hl3; exact hl3, World.putObj_heap_same (Array.getElem?_eq_some_iff.1 hl3).1, (World.putObj_heap_other (by omega)).trans (hk3.same _ _ (Nat.le_refl _) hk2 rfl)⟩
      rintro e a3 W3 hp
      cases e with
      | normal =>
        obtain ⟨hk3, hkp3, hi3⟩ := hp
        obtain ⟨hr, hl3, hl4, hk4⟩ := fin none W3 hk3
        exact ⟨_, _, hr, .inl ⟨rfl, ⟨hI.put hi3 (by omega) hl3 rfl, hl4, hk4⟩, hKt (hKt hw2 hkp3) (hKb _ _ _ _ hl3 rfl)⟩⟩
      | ret =>
        obtain ⟨hk3, hi3⟩ := hp
        obtain ⟨hr, hl3, hl4, hk4⟩ := fin (some .ret) W3 hk3
        exact ⟨_, _, hr, .inr ⟨rfl, .ret, (hIx _).put hi3 (by omega) hl3 rfl, hl4, hk4⟩⟩
      | exit id =>
        obtain ⟨hk3, hi3⟩ := hp
        obtain ⟨hr, hl3, hl4, hk4⟩ := fin (some (.exit id)) W3 hk3
        exact ⟨_, _, hr, .inr ⟨rfl, .exit id, (hIx _).put hi3 (by omega) hl3 rfl, hl4, hk4⟩⟩
      | goto t =>
        obtain ⟨hk3, hi3⟩ := hp
        obtain ⟨hr, hl3, hl4, hk4⟩ := fin (some (.goto t)) W3 hk3
        exact ⟨_, _, hr, .inr ⟨rfl, .goto t, (hIx _).put hi3 (by omega) hl3 rfl, hl4, hk4⟩⟩
      | panic ch => exact hp.elim
      | outgrown => exact hp.elim
    · rintro e W2 (⟨⟨v, rfl⟩, (⟨xs, hS, hi, hl, hk⟩ | ⟨pre, hSp, c, hi, hl, hk⟩)⟩ | ⟨pre, hPn, rfl, hi, hl, hk⟩)
      · exact ⟨none, _, by have := run_endLoop (P := P) hl (by rw [hrec]; simp); rw [hrec] at this; exact this, hdone _ xs _ (Nat.le_refl _) hS (hI.put hi (by omega) hl rfl) ((World.putObj_heap_other (by omega)).trans hk)⟩
      · exact ⟨some c, _, by have := run_endLoop (P := P) hl (by rw [hrec]; simp); rw [hrec] at this; exact this, hstop _ c pre _ (Nat.le_refl _) hSp ((hIx c).put hi (by omega) hl rfl) ((World.putObj_heap_other (by omega)).trans hk)⟩
      · exact hpanic _ pre _ (Nat.le_refl _) hPn hi hk
end Go.Proofs.Ytcdhbdhhknlbaaa
