/- Several texts in one: RefDic, RefDiT, RefDiF, RefDiR, RefDiW, RefDiX, DicP, TBuP, DEach. -/
import Derived.Test.YtcdhbdhhknlbaaaK6
import Derived.Deep.DeepCutAuto
import Derived.Deep.RegionHeld3
namespace Go.Proofs.Ytcdhbdhhknlbaaa
set_option linter.unusedVariables false
set_option linter.unusedSimpArgs false
open Go.RowKit

/-- a list of terms and values. -/
structure RefD (w : World) (B g : Nat) (l : List Tx) (at_ : List Nat) : Prop where
  lo : B ≤ g
  ex : ∃ vt va, w.heap[g]? = some (.cells #[vt, va] 88 (0, 0)) ∧ Own w B 9 1 vt l.length (svs l) ∧ Own w B 40 1 va at_.length (un at_)
theorem RefD.fr0 {w w' : World} {B g : Nat} {l : List Tx} {at_ : List Nat} (h : RefD w B g l at_) (f : Fr No w w') : RefD w' B g l at_ := by
  obtain ⟨lo, vt, va, h1, h2, h3⟩ := h
  exact ⟨lo, vt, va, f.blk h1 (fun h => h), h2.fr0 f, h3.fr0 f⟩
theorem RefD.above {S : Nat → Prop} {w w' : World} {B g : Nat} {l : List Tx} {at_ : List Nat} (h : RefD w B g l at_) (f : Fr S w w') (hS : ∀ k, S k → k < B) : RefD w' B g l at_ := by
  obtain ⟨lo, vt, va, h1, h2, h3⟩ := h
  exact ⟨lo, vt, va, f.blk h1 (fun h => by have := hS _ h; omega), h2.above f hS, h3.above f hS⟩

set_option maxRecDepth 100000 in
set_option maxHeartbeats 400000 in
theorem rlen_any (g B : Nat) (l : List Tx) (at_ : List Nat) (w : World) (h : RefD w B g l at_) (hn : l.length ≤ 1048576) :
    Calls Try.prog 57 #[.pointer (some ⟨g, 0, none⟩)] w (Ret (.int .i64 l.length) w) := by
  obtain ⟨_, vt, va, h1, h2, _⟩ := h
  obtain ⟨A, c, rfl, _⟩ := h2.form
  have k : w.cell? ⟨g, 0, none⟩ = some (.slice A l.length c) := cell_of_row _ _ 0 _ _ _ h1
  clear h1 h2
  generalize l.length = n at k hn ⊢
  go_enter Try.func57, Try.ntmps57
  go_wp2
  go_ret
  exact ⟨rfl, rfl⟩
set_option maxRecDepth 100000 in
set_option maxHeartbeats 400000 in
theorem rlen_nil (w : World) : Calls Try.prog 57 #[.pointer none] w (Ret (.int .i64 0) w) := by
  go_enter Try.func57, Try.ntmps57
  go_wp2
  go_ret
  exact ⟨rfl, rfl⟩
end Go.Proofs.Ytcdhbdhhknlbaaa
namespace Go.Proofs.Ytcdhbdhhknlbaaa
set_option linter.unusedVariables false
set_option linter.unusedSimpArgs false
open Go.RowKit

theorem RefD.cellT {w : World} {B g : Nat} {l : List Tx} {at_ : List Nat} (h : RefD w B g l at_) {i : Nat} (hi : i < l.length) : ∃ L c, w.cell? ⟨g, 0, none⟩ = some (.slice (some ⟨L, 0, none⟩) l.length c) ∧ w.cell? ⟨L, i, none⟩ = some (sv (l.getD i [])) := by
  obtain ⟨_, vt, va, h1, h2, _⟩ := h
  obtain ⟨A, c, rfl, _⟩ := h2.form
  obtain ⟨L, rfl, _, _, q, _⟩ := h2.store hi
  exact ⟨L, c, cell_of_row _ _ 0 _ _ _ h1, by rw [q, svs_get hi]⟩
theorem RefD.cellV {w : World} {B g : Nat} {l : List Tx} {at_ : List Nat} (h : RefD w B g l at_) {i : Nat} (hi : i < at_.length) : ∃ L c, w.cell? ⟨g, 1, none⟩ = some (.slice (some ⟨L, 0, none⟩) at_.length c) ∧ w.cell? ⟨L, i, none⟩ = some (.int .u64 (at_.getD i 0 : Nat)) := by
  obtain ⟨_, vt, va, h1, _, h2⟩ := h
  obtain ⟨A, c, rfl, _⟩ := h2.form
  obtain ⟨L, rfl, _, _, q, _⟩ := h2.store hi
  exact ⟨L, c, cell_of_row _ _ 1 _ _ _ h1, by rw [q, un_get hi]⟩

set_option maxRecDepth 100000 in
set_option maxHeartbeats 800000 in
theorem rterm_any (g B : Nat) (l : List Tx) (at_ : List Nat) (w : World) (o : Int) (h : RefD w B g l at_) (hn : l.length ≤ 1048576) :
    Calls Try.prog 58 #[.pointer (some ⟨g, 0, none⟩), .int .i64 o] w (Ret (sv (termAt l o)) w) := by
  have HLe := hide (rlen_any g B l at_ w h hn)
  unfold termAt
  by_cases h0 : o < 0
  · have e0 : (if 0 ≤ o then l.getD o.toNat [] else []) = [] := if_neg (by omega)
    rw [e0]
    have d1 : decide (o < 0) = true := decide_eq_true h0
    clear h e0
    go_enter Try.func58, Try.ntmps58
    go_wp2_with (fail)
    go_ret
    exact ⟨rfl, rfl⟩
  · have d1 : decide (o < 0) = false := decide_eq_false h0
    rw [if_pos (by omega)]
    obtain ⟨i, rfl⟩ : ∃ i : Nat, o = i := ⟨o.toNat, by omega⟩
    rw [Int.toNat_natCast]
    by_cases hi : i < l.length
    · obtain ⟨L, c, k1, k2⟩ := h.cellT hi
      have d2 : decide ((l.length : Int) ≤ i) = false := decide_eq_false (by omega)
      have d3 : decide (l.length ≤ i) = false := decide_eq_false (by omega)
      have i0 : (0 : Int) ≤ (i : Int) := by omega
      have i2 : (i : Int) < (l.length : Nat) := by omega
      clear h h0 hi
      generalize l.getD i [] = t at k2 ⊢
      obtain ⟨X, hX⟩ : ∃ X : ByteArray, sv t = .string X := ⟨_, rfl⟩
      rw [hX] at k2 ⊢
      clear hX
      generalize l.length = n at HLe d2 d3 k1 i2
      go_enter Try.func58, Try.ntmps58
      go_wp2_with (go_at_call 57; refine HLe.out.mono ?_; rintro en w2 ⟨rfl, rfl⟩)
      go_ret
      exact ⟨rfl, rfl⟩
    · have e0 : l.getD i [] = [] := by rw [List.getD, List.getElem?_eq_none (by omega)]; rfl
      rw [e0]
      have d2 : decide ((l.length : Int) ≤ i) = true := decide_eq_true (by omega)
      have d3 : decide (l.length ≤ i) = true := decide_eq_true (by omega)
      clear h e0 h0
      generalize l.length = n at HLe d2 d3
      go_enter Try.func58, Try.ntmps58
      go_wp2_with (go_at_call 57; refine HLe.out.mono ?_; rintro en w2 ⟨rfl, rfl⟩)
      go_ret
      exact ⟨rfl, rfl⟩
set_option maxRecDepth 100000 in
set_option maxHeartbeats 800000 in
theorem rval_any (g B : Nat) (l : List Tx) (at_ : List Nat) (w : World) (o : Int) (h : RefD w B g l at_) (hn : l.length ≤ 1048576) (hat : l.length = at_.length) :
    Calls Try.prog 59 #[.pointer (some ⟨g, 0, none⟩), .int .i64 o] w (Ret (.int .u64 (valAt at_ o : Nat)) w) := by
  have HLe := hide (rlen_any g B l at_ w h hn)
  unfold valAt
  by_cases h0 : o < 0
  · have e0 : (if 0 ≤ o then at_.getD o.toNat 0 else 0) = 0 := if_neg (by omega)
    rw [e0]
    have d1 : decide (o < 0) = true := decide_eq_true h0
    clear h e0
    go_enter Try.func59, Try.ntmps59
    go_wp2_with (fail)
    go_ret
    exact ⟨rfl, rfl⟩
  · have d1 : decide (o < 0) = false := decide_eq_false h0
    rw [if_pos (by omega)]
    obtain ⟨i, rfl⟩ : ∃ i : Nat, o = i := ⟨o.toNat, by omega⟩
    rw [Int.toNat_natCast]
    by_cases hi : i < l.length
    · obtain ⟨L, c, k1, k2⟩ := h.cellV (i := i) (by omega)
      rw [← hat] at k1
      have d2 : decide ((l.length : Int) ≤ i) = false := decide_eq_false (by omega)
      have d3 : decide (l.length ≤ i) = false := decide_eq_false (by omega)
      have i0 : (0 : Int) ≤ (i : Int) := by omega
      have i2 : (i : Int) < (l.length : Nat) := by omega
      clear h h0 hi hat
      generalize at_.getD i 0 = X at k2 ⊢
      generalize l.length = n at HLe d2 d3 k1 i2
      go_enter Try.func59, Try.ntmps59
      go_wp2_with (go_at_call 57; refine HLe.out.mono ?_; rintro en w2 ⟨rfl, rfl⟩)
      go_ret
      exact ⟨rfl, rfl⟩
    · have e0 : at_.getD i 0 = 0 := by rw [List.getD, List.getElem?_eq_none (by omega)]; rfl
      rw [e0]
      have d2 : decide ((l.length : Int) ≤ i) = true := decide_eq_true (by omega)
      have d3 : decide (l.length ≤ i) = true := decide_eq_true (by omega)
      clear h e0 h0 hat
      generalize l.length = n at HLe d2 d3
      go_enter Try.func59, Try.ntmps59
      go_wp2_with (go_at_call 57; refine HLe.out.mono ?_; rintro en w2 ⟨rfl, rfl⟩)
      go_ret
      exact ⟨rfl, rfl⟩
end Go.Proofs.Ytcdhbdhhknlbaaa
namespace Go.Proofs.Ytcdhbdhhknlbaaa
set_option linter.unusedVariables false
set_option linter.unusedSimpArgs false
open Go.RowKit

/-- what Find answers in a list: the first place. -/
def rfindV (l : List Tx) (s : Tx) : Value := match l.findIdx? (fun t => decide (t = s)) with | some i => .tuple #[.int .i64 (i : Nat), .bool true] | none => .tuple #[.int .i64 0, .bool false]

set_option maxRecDepth 100000 in
set_option maxHeartbeats 800000 in
theorem rfind_any (g B : Nat) (l : List Tx) (at_ : List Nat) (s : Tx) (w : World) (h : RefD w B g l at_) (hn : l.length ≤ 1048576) :
    Calls Try.prog 60 #[.pointer (some ⟨g, 0, none⟩), .string ⟨s.toArray⟩] w (Ret (rfindV l s) w) := by
  have HLe := hide (rlen_any g B l at_ w h hn)
  have H := hide h
  obtain ⟨Y, hY⟩ : ∃ Y : ByteArray, (⟨s.toArray⟩ : ByteArray) = Y := ⟨_, rfl⟩
  have eY : Y.toList = s := by rw [← hY, tx_list]
  have EY := hide eY
  rw [hY]
  clear h hY eY
  obtain ⟨n, hN⟩ : ∃ n, l.length = n := ⟨_, rfl⟩
  have HN := hide hN
  rw [hN] at HLe hn
  clear hN
  go_enter Try.func60, Try.ntmps60
  go_wp2_with (fail)
  go_loopw [6] (fun i wr => ∃ k : Nat, k ≤ n ∧ i = .int .i64 k ∧ wr = w ∧ Hid (∀ j, j < k → l.getD j [] ≠ s)) (fun i _ => n - (intOf i).toNat)
  case atStart => exact ⟨0, by omega, rfl, rfl, hide (fun j hj => by omega)⟩
  case round =>
    obtain ⟨k, hk, rfl, rfl, HQ⟩ := hrel
    by_cases hlt : k < n
    · obtain ⟨L, c, k1, k2⟩ := H.out.cellT (i := k) (by rw [HN.out]; exact hlt)
      rw [HN.out] at k1
      have d1 : decide ((k : Int) < n) = true := decide_eq_true (by omega)
      have i2 : (k : Int) < (n : Int) := by omega
      obtain ⟨X, hX⟩ : ∃ X : ByteArray, sv (l.getD k []) = .string X := ⟨_, rfl⟩
      have eX : X.toList = l.getD k [] := by
        unfold sv at hX
        injection hX with h
        rw [← h, tx_list]
      rw [hX] at k2
      by_cases he : l.getD k [] = s
      · have d3 : (X.toList == Y.toList) = true := by rw [eX, EY.out]; simpa using he
        have hres : rfindV l s = .tuple #[.int .i64 (k : Nat), .bool true] := by
          have : l.findIdx? (fun t => decide (t = s)) = some k := by
            rw [List.findIdx?_eq_some_iff_getElem]
            refine ⟨by rw [HN.out]; exact hlt, ?_, fun j hj => ?_⟩
            · have := he
              rw [List.getD, List.getElem?_eq_getElem (by rw [HN.out]; exact hlt)] at this
              simpa using this
            · have := HQ.out j hj
              rw [List.getD, List.getElem?_eq_getElem (by rw [HN.out]; omega)] at this
              simpa using this
          unfold rfindV
          rw [this]
        rw [hres]
        clear hX eX he hres
        go_wp2_with (go_at_call 57; refine HLe.out.mono ?_; rintro en w2 ⟨rfl, rfl⟩)
        go_ret2
        exact ⟨rfl, rfl⟩
      · have d3 : (X.toList == Y.toList) = false := by rw [eX, EY.out]; simpa using he
        have HQ2 : Hid (∀ j, j < k + 1 → l.getD j [] ≠ s) := hide (fun j hj => by
          by_cases e : j = k
          · rw [e]; exact he
          · exact HQ.out j (by omega))
        clear hX eX he
        go_wp2_with (go_at_call 57; refine HLe.out.mono ?_; rintro en w2 ⟨rfl, rfl⟩)
        go_roundw
        case rel => exact ⟨k + 1, by omega, by go_num, trivial, HQ2⟩
        case measure => simp [intOf]; omega
    · have d1 : decide ((k : Int) < n) = false := decide_eq_false (by omega)
      have hres : rfindV l s = .tuple #[.int .i64 0, .bool false] := by
        have : l.findIdx? (fun t => decide (t = s)) = none := by
          rw [List.findIdx?_eq_none_iff]
          intro x hx
          obtain ⟨j, hj, rfl⟩ := List.getElem_of_mem hx
          have := HQ.out j (by have := HN.out; omega)
          rw [List.getD, List.getElem?_eq_getElem hj] at this
          simpa using this
        unfold rfindV
        rw [this]
      have HRes := hide hres
      clear hres
      go_wp2_with (go_at_call 57; refine HLe.out.mono ?_; rintro en w2 ⟨rfl, rfl⟩)
      go_ret2
      exact ⟨by rw [HRes.out]; rfl, rfl⟩
end Go.Proofs.Ytcdhbdhhknlbaaa
namespace Go.Proofs.Ytcdhbdhhknlbaaa
set_option linter.unusedVariables false
set_option linter.unusedSimpArgs false
open Go.RowKit

/-- the first place that is not below. -/
theorem low_is {l : List Tx} (h : Asc l) {s : Tx} {k : Nat} (hk : k ≤ l.length) (h1 : ∀ j, j < k → l.getD j [] < s) (h2 : k < l.length → ¬ l.getD k [] < s) : lowT l s = k := by
  have hle := lowT_le l s
  have a1 : k ≤ lowT l s := by
    by_cases h0 : k = 0
    · omega
    · have := (low_iff (s := s) h (i := k - 1) (by omega)).1 (h1 (k - 1) (by omega))
      omega
  have a2 : lowT l s ≤ k := by
    by_cases h0 : k < l.length
    · have h3 := h2 h0
      have h4 := low_iff (s := s) h (i := k) h0
      exact Nat.le_of_not_lt (fun q => h3 (h4.2 q))
    · omega
  omega
theorem top_iff {l : List Tx} (h : Asc l) {s : Tx} {i : Nat} (hi : i < l.length) : i < topT l s ↔ ¬ s < l.getD i [] := by
  have h1 := low_iff (s := s) h hi
  unfold topT
  by_cases hc : lowT l s < l.length ∧ l.getD (lowT l s) [] = s
  · rw [if_pos hc]
    obtain ⟨c1, c2⟩ := hc
    rcases Nat.lt_trichotomy i (lowT l s) with h2 | h2 | h2
    · have h3 := h1.2 h2
      exact ⟨fun _ k => tl_irrefl _ (tl_trans h3 k), fun _ => by omega⟩
    · rw [h2, c2]
      exact ⟨fun _ => tl_irrefl _, fun _ => by omega⟩
    · have h3 := h.lt h2 hi
      rw [c2] at h3
      exact ⟨fun _ => by omega, fun k => absurd h3 k⟩
  · rw [if_neg hc]
    rcases Nat.lt_or_ge i (lowT l s) with h2 | h2
    · have h3 := h1.2 h2
      exact ⟨fun _ k => tl_irrefl _ (tl_trans h3 k), fun _ => h2⟩
    · have h3 : ¬ l.getD i [] < s := fun k => absurd (h1.1 k) (by omega)
      refine ⟨fun _ => by omega, fun k => ?_⟩
      exfalso
      rcases tl_total (l.getD i []) s with q | q | q
      · exact h3 q
      · by_cases e : i = lowT l s
        · exact hc ⟨by omega, by rw [← e]; exact q⟩
        · have h5 := h.lt (i := lowT l s) (j := i) (by omega) hi
          rw [q] at h5
          exact absurd ((low_iff (s := s) h (i := lowT l s) (by omega)).1 h5) (by omega)
      · exact k q
theorem topT_le (l : List Tx) (s : Tx) : topT l s ≤ l.length := by
  have := lowT_le l s
  unfold topT
  split <;> omega
theorem top_is {l : List Tx} (h : Asc l) {s : Tx} {a k : Nat} (hak : a ≤ k) (hk : k ≤ l.length) (h1 : ∀ j, a ≤ j → j < k → ¬ s < l.getD j []) (h2 : k < l.length → s < l.getD k []) : max a (topT l s) = k := by
  have hle := topT_le l s
  have a1 : a < k → k ≤ topT l s := fun h0 => by
    have := (top_iff h (s := s) (i := k - 1) (by omega)).2 (h1 (k - 1) (by omega) (by omega))
    omega
  have a2 : topT l s ≤ k := by
    by_cases h0 : k < l.length
    · have h3 := top_iff h (s := s) h0
      exact Nat.le_of_not_lt (fun q => h3.1 q (h2 h0))
    · omega
  omega
end Go.Proofs.Ytcdhbdhhknlbaaa
namespace Go.Proofs.Ytcdhbdhhknlbaaa
set_option linter.unusedVariables false
set_option linter.unusedSimpArgs false
open Go.RowKit

set_option maxRecDepth 100000 in
set_option maxHeartbeats 1600000 in
theorem rrange_any (g B : Nat) (l : List Tx) (at_ : List Nat) (r s : Tx) (w : World) (h : RefD w B g l at_) (hn : l.length ≤ 1048576) (ha : Asc l) :
    Calls Try.prog 62 #[.pointer (some ⟨g, 0, none⟩), .string ⟨r.toArray⟩, .string ⟨s.toArray⟩] w (Ret (.tuple #[.int .i64 (lowT l r : Nat), .int .i64 (max (lowT l r) (topT l s) : Nat)]) w) := by
  have HLe := hide (rlen_any g B l at_ w h hn)
  have H := hide h
  have HA := hide ha
  obtain ⟨Y, hY⟩ : ∃ Y : ByteArray, (⟨s.toArray⟩ : ByteArray) = Y := ⟨_, rfl⟩
  obtain ⟨Z, hZ⟩ : ∃ Z : ByteArray, (⟨r.toArray⟩ : ByteArray) = Z := ⟨_, rfl⟩
  have EY : Hid (Y.toList = s) := hide (by rw [← hY, tx_list])
  have EZ : Hid (Z.toList = r) := hide (by rw [← hZ, tx_list])
  rw [hY, hZ]
  clear h hY hZ ha
  obtain ⟨n, hN⟩ : ∃ n, l.length = n := ⟨_, rfl⟩
  have HN := hide hN
  rw [hN] at HLe hn
  clear hN
  obtain ⟨P, hP⟩ : ∃ P, lowT l r = P := ⟨_, rfl⟩
  obtain ⟨Q, hQ⟩ : ∃ Q, max P (topT l s) = Q := ⟨_, rfl⟩
  rw [hP, hQ]
  have HP := hide hP
  have HQ := hide hQ
  clear hP hQ
  go_enter Try.func62, Try.ntmps62
  go_wp2_with (fail)
  go_loopw [8] (fun i wr => ∃ k : Nat, k ≤ n ∧ i = .int .i64 k ∧ wr = w ∧ Hid (∀ j, j < k → l.getD j [] < r)) (fun i _ => n - (intOf i).toNat)
  case atStart => exact ⟨0, by omega, rfl, rfl, hide (fun j hj => by omega)⟩
  case round =>
    obtain ⟨k, hk, rfl, rfl, HJ⟩ := hrel
    obtain ⟨gb, hgb⟩ : ∃ gb : Bool, gb = decide (k < n ∧ l.getD k [] < r) := ⟨_, rfl⟩
    have HGb := hide hgb
    clear hgb
    go_upto_region 2 with (fail)
    refine wp_named fun K hK => ?_
    go_cut [24] from 10 to 24 (fun v wx => v = .bool gb ∧ wx = wr)
    case first =>
      by_cases hlt : k < n
      · obtain ⟨L, c, k1, k2⟩ := H.out.cellT (i := k) (by rw [HN.out]; exact hlt)
        rw [HN.out] at k1
        have d1 : decide ((k : Int) < n) = true := decide_eq_true (by omega)
        have i2 : (k : Int) < (n : Int) := by omega
        obtain ⟨X, hX⟩ : ∃ X : ByteArray, sv (l.getD k []) = .string X := ⟨_, rfl⟩
        have eX : X.toList = l.getD k [] := by
          unfold sv at hX
          injection hX with h
          rw [← h, tx_list]
        rw [hX] at k2
        have HX : Hid (gb = decide (l.getD k [] < r)) := hide (by rw [HGb.out]; simp [hlt])
        have d3 : Op.bytesLess X.toList Z.toList = decide (l.getD k [] < r) := by rw [eX, EZ.out, bytesLess_eq]
        rw [← HX.out] at d3
        clear hX eX
        cases gb with
        | true =>
          go_wp2_with (go_at_call 57; refine HLe.out.mono ?_; rintro en w2 ⟨rfl, rfl⟩)
          go_meet
          exact ⟨rfl, rfl⟩
        | false =>
          go_wp2_with (go_at_call 57; refine HLe.out.mono ?_; rintro en w2 ⟨rfl, rfl⟩)
          go_meet
          exact ⟨rfl, rfl⟩
      · have d1 : decide ((k : Int) < n) = false := decide_eq_false (by omega)
        have HX : Hid (gb = false) := hide (by rw [HGb.out]; simp [hlt])
        go_wp2_with (go_at_call 57; refine HLe.out.mono ?_; rintro en w2 ⟨rfl, rfl⟩)
        go_meet
        exact ⟨by rw [HX.out], rfl⟩
    case rest =>
      obtain ⟨rfl, rfl⟩ := hcut
      refine hK _ _ ?_
      cases hgb : gb with
      | true =>
        have hg0 := HGb.out
        rw [hgb] at hg0
        have hg := of_decide_eq_true hg0.symm
        clear hg0
        have hlt := hg.1
        have HJ2 : Hid (∀ j, j < k + 1 → l.getD j [] < r) := hide (fun j hj => by
          by_cases e : j = k
          · rw [e]; exact hg.2
          · exact HJ.out j (by omega))
        clear hg
        subst hgb
        go_wp2_with (fail)
        go_roundw
        case rel => exact ⟨k + 1, by omega, by go_num, trivial, HJ2⟩
        case measure => simp [intOf]; omega
      | false =>
        have hg0 := HGb.out
        rw [hgb] at hg0
        have hg := of_decide_eq_false hg0.symm
        clear hg0
        have hPk : P = k := by
          rw [← HP.out]
          exact low_is HA.out (by rw [HN.out]; exact hk) HJ.out (fun h1 h2 => hg ⟨by rw [← HN.out]; exact h1, h2⟩)
        clear hg HJ HGb
        subst hPk
        subst hgb
        go_wp2_with (fail)
        obtain ⟨w, rfl⟩ : ∃ W : World, W = wc := ⟨_, rfl⟩
        go_loopw [9] (fun i wx => ∃ k : Nat, P ≤ k ∧ k ≤ n ∧ i = .int .i64 k ∧ wx = w ∧ Hid (∀ j, P ≤ j → j < k → ¬ s < l.getD j [])) (fun i _ => n - (intOf i).toNat)
        case atStart => exact ⟨P, by omega, hk, rfl, rfl, hide (fun j h1 h2 => by omega)⟩
        case round =>
          obtain ⟨k, hpk, hk2, rfl, rfl, HJ⟩ := hrel
          obtain ⟨gb, hgb⟩ : ∃ gb : Bool, gb = decide (k < n ∧ ¬ s < l.getD k []) := ⟨_, rfl⟩
          have HGb := hide hgb
          clear hgb
          go_upto_region 5 with (fail)
          refine wp_named fun K hK => ?_
          go_cut [42] from 28 to 42 (fun v wx => v = .bool gb ∧ wx = wr)
          case first =>
            by_cases hlt : k < n
            · obtain ⟨L, c, k1, k2⟩ := H.out.cellT (i := k) (by rw [HN.out]; exact hlt)
              rw [HN.out] at k1
              have d1 : decide ((k : Int) < n) = true := decide_eq_true (by omega)
              have i2 : (k : Int) < (n : Int) := by omega
              obtain ⟨X, hX⟩ : ∃ X : ByteArray, sv (l.getD k []) = .string X := ⟨_, rfl⟩
              have eX : X.toList = l.getD k [] := by
                unfold sv at hX
                injection hX with h
                rw [← h, tx_list]
              rw [hX] at k2
              have HX : Hid (gb = decide (¬ s < l.getD k [])) := hide (by rw [HGb.out]; simp [hlt])
              have HG : Hid ((Op.bytesLess X.toList Y.toList || X.toList == Y.toList) = gb) := hide (by
                rw [HX.out, eX, EY.out, bytesLess_eq]
                rcases tl_total (l.getD k []) s with h | h | h
                · have h2 : ¬ s < l.getD k [] := fun q => tl_irrefl _ (tl_trans h q)
                  rw [decide_eq_true h, decide_eq_true h2]; rfl
                · rw [h, decide_eq_false (tl_irrefl s), decide_eq_true (tl_irrefl s)]; simp
                · have h2 : ¬ l.getD k [] < s := fun q => tl_irrefl _ (tl_trans h q)
                  have h3 : ¬ l.getD k [] = s := fun q => by rw [q] at h; exact tl_irrefl _ h
                  rw [decide_eq_false h2, decide_eq_false (fun q => q h), beq_eq_false_iff_ne.2 h3]; rfl)
              clear hX eX
              go_wp2_with (go_at_call 57; refine HLe.out.mono ?_; rintro en w2 ⟨rfl, rfl⟩)
              go_meet
              exact ⟨by rw [HG.out], rfl⟩
            · have d1 : decide ((k : Int) < n) = false := decide_eq_false (by omega)
              have HX : Hid (gb = false) := hide (by rw [HGb.out]; simp [hlt])
              go_wp2_with (go_at_call 57; refine HLe.out.mono ?_; rintro en w2 ⟨rfl, rfl⟩)
              go_meet
              exact ⟨by rw [HX.out], rfl⟩
          case rest =>
            obtain ⟨rfl, rfl⟩ := hcut
            refine hK _ _ ?_
            cases hgb : gb with
            | true =>
              have hg0 := HGb.out
              rw [hgb] at hg0
              have hg := of_decide_eq_true hg0.symm
              clear hg0
              have hlt := hg.1
              have HJ2 : Hid (∀ j, P ≤ j → j < k + 1 → ¬ s < l.getD j []) := hide (fun j h1 h2 => by
                by_cases e : j = k
                · rw [e]; exact hg.2
                · exact HJ.out j h1 (by omega))
              clear hg
              subst hgb
              go_wp2_with (fail)
              go_roundw
              case rel => exact ⟨k + 1, by omega, by omega, by go_num, trivial, HJ2⟩
              case measure => simp [intOf]; omega
            | false =>
              have hg0 := HGb.out
              rw [hgb] at hg0
              have hg := of_decide_eq_false hg0.symm
              clear hg0
              have hQk : Q = k := by
                rw [← HQ.out]
                exact top_is HA.out hpk (by rw [HN.out]; exact hk2) HJ.out (fun h1 => Classical.not_not.1 (fun h2 => hg ⟨by rw [← HN.out]; exact h1, h2⟩))
              clear hg HJ HGb
              subst hQk
              subst hgb
              go_wp2_with (fail)
              go_ret2
              exact ⟨rfl, rfl⟩
end Go.Proofs.Ytcdhbdhhknlbaaa
namespace Go.Proofs.Ytcdhbdhhknlbaaa
set_option linter.unusedVariables false
set_option linter.unusedSimpArgs false
open Go.RowKit

theorem beq_dec (a b : Tx) : (a == b) = decide (a = b) := by by_cases h : a = b <;> simp [h]
/-- how many at the head begin with a text. -/
def pwN (p : Tx) : List Tx → Nat
  | [] => 0
  | t :: r => if t.take p.length = p then pwN p r + 1 else 0
def preT (l : List Tx) (p : Tx) : Nat := lowT l p + pwN p (l.drop (lowT l p))
theorem pre_is {l : List Tx} {p : Tx} {k : Nat} : ∀ d a, d = k - a → a ≤ k → k ≤ l.length → (∀ j, a ≤ j → j < k → (l.getD j []).take p.length = p) → (k < l.length → (l.getD k []).take p.length ≠ p) → a + pwN p (l.drop a) = k := by
  intro d
  induction d with
  | zero =>
    intro a h1 h2 h3 h4 h5
    obtain rfl : a = k := by omega
    by_cases h : a < l.length
    · rw [drop_cons h, pwN, if_neg (h5 h), Nat.add_zero]
    · rw [List.drop_eq_nil_of_le (by omega), pwN, Nat.add_zero]
  | succ d ih =>
    intro a h1 h2 h3 h4 h5
    have h := ih (a + 1) (by omega) (by omega) h3 (fun j q1 q2 => h4 j (by omega) q2) h5
    rw [drop_cons (show a < l.length by omega), pwN, if_pos (h4 a (Nat.le_refl _) (by omega))]
    omega
theorem pwN_le (p : Tx) : ∀ l : List Tx, pwN p l ≤ l.length
  | [] => Nat.le_refl _
  | t :: r => by
    have := pwN_le p r
    rw [pwN]
    split <;> simp <;> omega

set_option maxRecDepth 100000 in
set_option maxHeartbeats 1600000 in
theorem rprefix_any (g B : Nat) (l : List Tx) (at_ : List Nat) (s : Tx) (w : World) (h : RefD w B g l at_) (hn : l.length ≤ 1048576) (ha : Asc l) (hl : ∀ t ∈ l, t.length ≤ 4096) (hs : s.length ≤ maxLen) :
    Calls Try.prog 61 #[.pointer (some ⟨g, 0, none⟩), .string ⟨s.toArray⟩] w (Ret (.tuple #[.int .i64 (lowT l s : Nat), .int .i64 (preT l s : Nat)]) w) := by
  have HLe := hide (rlen_any g B l at_ w h hn)
  have H := hide h
  have HA := hide ha
  have HL := hide hl
  obtain ⟨Y, hY⟩ : ∃ Y : ByteArray, (⟨s.toArray⟩ : ByteArray) = Y := ⟨_, rfl⟩
  have EY : Hid (Y.toList = s) := hide (by rw [← hY, tx_list])
  have hYs : Y.size ≤ maxLen := by rw [← hY, tx_size]; exact hs
  have HYs : Hid (Y.size = s.length) := hide (by rw [← hY, tx_size])
  unfold maxLen at hYs
  rw [hY]
  clear h hY ha hl hs
  obtain ⟨n, hN⟩ : ∃ n, l.length = n := ⟨_, rfl⟩
  have HN := hide hN
  rw [hN] at HLe hn
  clear hN
  obtain ⟨Q, hQ⟩ : ∃ Q, preT l s = Q := ⟨_, rfl⟩
  rw [hQ]
  unfold preT at hQ
  obtain ⟨P, hP⟩ : ∃ P, lowT l s = P := ⟨_, rfl⟩
  rw [hP] at hQ ⊢
  have HP := hide hP
  have HQ := hide hQ
  clear hP hQ
  go_enter Try.func61, Try.ntmps61
  go_wp2_with (fail)
  go_loopw [6] (fun i wr => ∃ k : Nat, k ≤ n ∧ i = .int .i64 k ∧ wr = w ∧ Hid (∀ j, j < k → l.getD j [] < s)) (fun i _ => n - (intOf i).toNat)
  case atStart => exact ⟨0, by omega, rfl, rfl, hide (fun j hj => by omega)⟩
  case round =>
    obtain ⟨k, hk, rfl, rfl, HJ⟩ := hrel
    obtain ⟨gb, hgb⟩ : ∃ gb : Bool, gb = decide (k < n ∧ l.getD k [] < s) := ⟨_, rfl⟩
    have HGb := hide hgb
    clear hgb
    go_upto_region 2 with (fail)
    refine wp_named fun K hK => ?_
    go_cut [22] from 8 to 22 (fun v wx => v = .bool gb ∧ wx = wr)
    case first =>
      by_cases hlt : k < n
      · obtain ⟨L, c, k1, k2⟩ := H.out.cellT (i := k) (by rw [HN.out]; exact hlt)
        rw [HN.out] at k1
        have d1 : decide ((k : Int) < n) = true := decide_eq_true (by omega)
        have i2 : (k : Int) < (n : Int) := by omega
        obtain ⟨X, hX⟩ : ∃ X : ByteArray, sv (l.getD k []) = .string X := ⟨_, rfl⟩
        have eX : X.toList = l.getD k [] := by
          unfold sv at hX
          injection hX with h
          rw [← h, tx_list]
        rw [hX] at k2
        have HX : Hid (gb = decide (l.getD k [] < s)) := hide (by rw [HGb.out]; simp [hlt])
        have d3 : Op.bytesLess X.toList Y.toList = decide (l.getD k [] < s) := by rw [eX, EY.out, bytesLess_eq]
        rw [← HX.out] at d3
        clear hX eX
        cases gb with
        | true =>
          go_wp2_with (go_at_call 57; refine HLe.out.mono ?_; rintro en w2 ⟨rfl, rfl⟩)
          go_meet
          exact ⟨rfl, rfl⟩
        | false =>
          go_wp2_with (go_at_call 57; refine HLe.out.mono ?_; rintro en w2 ⟨rfl, rfl⟩)
          go_meet
          exact ⟨rfl, rfl⟩
      · have d1 : decide ((k : Int) < n) = false := decide_eq_false (by omega)
        have HX : Hid (gb = false) := hide (by rw [HGb.out]; simp [hlt])
        go_wp2_with (go_at_call 57; refine HLe.out.mono ?_; rintro en w2 ⟨rfl, rfl⟩)
        go_meet
        exact ⟨by rw [HX.out], rfl⟩
    case rest =>
      obtain ⟨rfl, rfl⟩ := hcut
      refine hK _ _ ?_
      cases hgb : gb with
      | true =>
        have hg0 := HGb.out
        rw [hgb] at hg0
        have hg := of_decide_eq_true hg0.symm
        clear hg0
        have hlt := hg.1
        have HJ2 : Hid (∀ j, j < k + 1 → l.getD j [] < s) := hide (fun j hj => by
          by_cases e : j = k
          · rw [e]; exact hg.2
          · exact HJ.out j (by omega))
        clear hg
        subst hgb
        go_wp2_with (fail)
        go_roundw
        case rel => exact ⟨k + 1, by omega, by go_num, trivial, HJ2⟩
        case measure => simp [intOf]; omega
      | false =>
        have hg0 := HGb.out
        rw [hgb] at hg0
        have hg := of_decide_eq_false hg0.symm
        clear hg0
        have hPk : P = k := by
          rw [← HP.out]
          exact low_is HA.out (by rw [HN.out]; exact hk) HJ.out (fun h1 h2 => hg ⟨by rw [← HN.out]; exact h1, h2⟩)
        clear hg HJ HGb
        subst hPk
        subst hgb
        go_wp2_with (fail)
        obtain ⟨w, rfl⟩ : ∃ W : World, W = wc := ⟨_, rfl⟩
        go_loopw [7] (fun i wx => ∃ k : Nat, P ≤ k ∧ k ≤ n ∧ i = .int .i64 k ∧ wx = w ∧ Hid (∀ j, P ≤ j → j < k → (l.getD j []).take s.length = s)) (fun i _ => n - (intOf i).toNat)
        case atStart => exact ⟨P, by omega, hk, rfl, rfl, hide (fun j h1 h2 => by omega)⟩
        case round =>
          obtain ⟨k, hpk, hk2, rfl, rfl, HJ⟩ := hrel
          obtain ⟨gb, hgb⟩ : ∃ gb : Bool, gb = decide (k < n ∧ (l.getD k []).take s.length = s) := ⟨_, rfl⟩
          have HGb := hide hgb
          clear hgb
          go_upto_region 5 with (fail)
          refine wp_named fun K hK => ?_
          go_cut [56] from 26 to 56 (fun v wx => v = .bool gb ∧ wx = wr)
          case first =>
            by_cases hlt : k < n
            · obtain ⟨L, c, k1, k2⟩ := H.out.cellT (i := k) (by rw [HN.out]; exact hlt)
              rw [HN.out] at k1
              have d1 : decide ((k : Int) < n) = true := decide_eq_true (by omega)
              have i2 : (k : Int) < (n : Int) := by omega
              have hXm : l.getD k [] ∈ l := by
                rw [List.getD, List.getElem?_eq_getElem (by rw [HN.out]; exact hlt)]
                exact List.getElem_mem _
              obtain ⟨X, hX⟩ : ∃ X : ByteArray, sv (l.getD k []) = .string X := ⟨_, rfl⟩
              have eX : X.toList = l.getD k [] := by
                unfold sv at hX
                injection hX with h
                rw [← h, tx_list]
              have eS : X.size = (l.getD k []).length := by
                unfold sv at hX
                injection hX with h
                rw [← h, tx_size]
              have hXs : X.size ≤ 4096 := by rw [eS]; exact HL.out _ hXm
              rw [hX] at k2
              have HX : Hid (gb = decide ((l.getD k []).take s.length = s)) := hide (by rw [HGb.out]; simp [hlt])
              by_cases hle : Y.size ≤ X.size
              · have d2 : decide ((Y.size : Int) ≤ (X.size : Int)) = true := decide_eq_true (by omega)
                have d2b : decide (Y.size ≤ X.size) = true := decide_eq_true hle
                have i4 : (Y.size : Int) ≤ (X.size : Int) := by omega
                have i5 : (0 : Int) ≤ (Y.size : Int) := by omega
                have d3 : ((X.extract 0 Y.size).toList == Y.toList) = decide ((l.getD k []).take s.length = s) := by
                  rw [Lib.extract_toList, ← ByteArray.toList_eq, eX, EY.out, HYs.out, List.drop_zero, Nat.sub_zero]
                  exact beq_dec _ _
                rw [← HX.out] at d3
                clear hX eX eS hXm
                cases gb with
                | true =>
                  go_wp2_with (go_at_call 57; refine HLe.out.mono ?_; rintro en w2 ⟨rfl, rfl⟩)
                  go_meet
                  exact ⟨rfl, rfl⟩
                | false =>
                  go_wp2_with (go_at_call 57; refine HLe.out.mono ?_; rintro en w2 ⟨rfl, rfl⟩)
                  go_meet
                  exact ⟨rfl, rfl⟩
              · have d2 : decide ((Y.size : Int) ≤ (X.size : Int)) = false := decide_eq_false (by omega)
                have d2b : decide (Y.size ≤ X.size) = false := decide_eq_false hle
                have HX2 : Hid (gb = false) := hide (by
                  rw [HX.out]
                  refine decide_eq_false (fun h => hle ?_)
                  have := congrArg List.length h
                  rw [List.length_take] at this
                  rw [HYs.out, eS]
                  omega)
                clear hX eX eS hXm
                go_wp2_with (go_at_call 57; refine HLe.out.mono ?_; rintro en w2 ⟨rfl, rfl⟩)
                go_meet
                exact ⟨by rw [HX2.out], rfl⟩
            · have d1 : decide ((k : Int) < n) = false := decide_eq_false (by omega)
              have HX : Hid (gb = false) := hide (by rw [HGb.out]; simp [hlt])
              go_wp2_with (go_at_call 57; refine HLe.out.mono ?_; rintro en w2 ⟨rfl, rfl⟩)
              go_meet
              exact ⟨by rw [HX.out], rfl⟩
          case rest =>
            obtain ⟨rfl, rfl⟩ := hcut
            refine hK _ _ ?_
            cases hgb : gb with
            | true =>
              have hg0 := HGb.out
              rw [hgb] at hg0
              have hg := of_decide_eq_true hg0.symm
              clear hg0
              have hlt := hg.1
              have HJ2 : Hid (∀ j, P ≤ j → j < k + 1 → (l.getD j []).take s.length = s) := hide (fun j h1 h2 => by
                by_cases e : j = k
                · rw [e]; exact hg.2
                · exact HJ.out j h1 (by omega))
              clear hg
              subst hgb
              go_wp2_with (fail)
              go_roundw
              case rel => exact ⟨k + 1, by omega, by omega, by go_num, trivial, HJ2⟩
              case measure => simp [intOf]; omega
            | false =>
              have hg0 := HGb.out
              rw [hgb] at hg0
              have hg := of_decide_eq_false hg0.symm
              clear hg0
              have hQk : Q = k := by
                rw [← HQ.out]
                exact pre_is _ P rfl hpk (by rw [HN.out]; exact hk2) HJ.out (fun h1 h2 => hg ⟨by rw [← HN.out]; exact h1, h2⟩)
              clear hg HJ HGb
              subst hQk
              subst hgb
              go_wp2_with (fail)
              go_ret2
              exact ⟨rfl, rfl⟩
end Go.Proofs.Ytcdhbdhhknlbaaa
namespace Go.Proofs.Ytcdhbdhhknlbaaa
set_option linter.unusedVariables false
set_option linter.unusedSimpArgs false
open Go.RowKit

/-- a dictionary of these terms, or none (then there are no terms). -/
structure DictP (w : World) (B : Nat) (p : Option Addr) (l : List Tx) (at_ : List Nat) : Prop where
  ex : (p = none ∧ l = [] ∧ at_ = []) ∨ ∃ g, p = some ⟨g, 0, none⟩ ∧ DictM w B g l at_
theorem DictP.fr0 {w w' : World} {B : Nat} {p : Option Addr} {l : List Tx} {at_ : List Nat} (h : DictP w B p l at_) (f : Fr No w w') : DictP w' B p l at_ := by
  rcases h.ex with h | ⟨g, h1, h2⟩
  · exact ⟨.inl h⟩
  · exact ⟨.inr ⟨g, h1, h2.fr0 f⟩⟩
theorem DictP.above {S : Nat → Prop} {w w' : World} {B : Nat} {p : Option Addr} {l : List Tx} {at_ : List Nat} (h : DictP w B p l at_) (f : Fr S w w') (hS : ∀ k, S k → k < B) : DictP w' B p l at_ := by
  rcases h.ex with h | ⟨g, h1, h2⟩
  · exact ⟨.inl h⟩
  · exact ⟨.inr ⟨g, h1, h2.above f hS⟩⟩
theorem DictP.off {S : Nat → Prop} {w w' : World} {B : Nat} {p : Option Addr} {l : List Tx} {at_ : List Nat} (h : DictP w B p l at_) (f : Fr S w w') (h1 : Off S w 75) (h2 : Off S w 24) (h3 : Off S w 5) (h4 : Off S w 9) : DictP w' B p l at_ := by
  rcases h.ex with h | ⟨g, q1, q2⟩
  · exact ⟨.inl h⟩
  · exact ⟨.inr ⟨g, q1, q2.mem.off f h1 h2 h3 h4, q2.ok, q2.u64⟩⟩
theorem DictP.n_le {w : World} {B : Nat} {p : Option Addr} {l : List Tx} {at_ : List Nat} (h : DictP w B p l at_) : l.length ≤ 1048576 := by
  rcases h.ex with ⟨_, h, _⟩ | ⟨g, _, h⟩
  · rw [h]; simp
  · exact h.ok.1
theorem DictP.asc {w : World} {B : Nat} {p : Option Addr} {l : List Tx} {at_ : List Nat} (h : DictP w B p l at_) : Asc l := by
  rcases h.ex with ⟨_, h, _⟩ | ⟨g, _, h⟩
  · rw [h]; trivial
  · exact h.asc
theorem DictP.le {w : World} {B : Nat} {p : Option Addr} {l : List Tx} {at_ : List Nat} (h : DictP w B p l at_) : ∀ t ∈ l, t.length ≤ 4096 := by
  rcases h.ex with ⟨_, h, _⟩ | ⟨g, _, h⟩
  · rw [h]; intro t ht; cases ht
  · exact h.ok.2.2.1
theorem plen_any (B : Nat) (p : Option Addr) (l : List Tx) (at_ : List Nat) (w : World) (h : DictP w B p l at_) : Calls Try.prog 14 #[.pointer p] w (Ret (.int .i64 l.length) w) := by
  rcases h.ex with ⟨rfl, rfl, _⟩ | ⟨g, rfl, h2⟩
  · exact dlen_nil w
  · exact dlen_any g B l.length _ _ w h2.mem
theorem termAt_nil (o : Int) : termAt [] o = [] := by unfold termAt; split <;> simp
theorem valAt_nil (o : Int) : valAt [] o = 0 := by unfold valAt; split <;> simp
theorem lowT_nil (s : Tx) : lowT [] s = 0 := by have := lowT_le [] s; simpa using this
theorem topT_nil (s : Tx) : topT [] s = 0 := by unfold topT; rw [lowT_nil]; simp
theorem preT_nil (s : Tx) : preT [] s = 0 := by unfold preT; rw [lowT_nil]; simp [pwN]
theorem pterm_any (B : Nat) (p : Option Addr) (l : List Tx) (at_ : List Nat) (w : World) (o : Int) (h : DictP w B p l at_) : Calls Try.prog 15 #[.pointer p, .int .i64 o] w (fun en w' => en = .returned (sv (termAt l o)) ∧ Fr No w w') := by
  rcases h.ex with ⟨rfl, rfl, _⟩ | ⟨g, rfl, h2⟩
  · rw [termAt_nil]; exact dterm_nil o w
  · exact dterm_any g B l at_ w o h2
theorem pat_any (B : Nat) (p : Option Addr) (l : List Tx) (at_ : List Nat) (w : World) (o : Int) (h : DictP w B p l at_) : Calls Try.prog 16 #[.pointer p, .int .i64 o] w (fun en w' => en = .returned (.int .u64 (valAt at_ o : Nat)) ∧ Fr No w w') := by
  rcases h.ex with ⟨rfl, rfl, rfl⟩ | ⟨g, rfl, h2⟩
  · rw [valAt_nil]; exact dat_nil o w
  · exact dat_any g B l at_ w o h2
theorem pfind_any (B : Nat) (p : Option Addr) (l : List Tx) (at_ : List Nat) (s : Tx) (w : World) (h : DictP w B p l at_) : Calls Try.prog 30 #[.pointer p, .string ⟨s.toArray⟩] w (fun en w' => en = .returned (findV l s) ∧ Fr No w w') := by
  rcases h.ex with ⟨rfl, rfl, rfl⟩ | ⟨g, rfl, h2⟩
  · have e : findV [] s = .tuple #[.int .i64 0, .bool false] := by unfold findV; rw [lowT_nil]; simp
    rw [e]; exact dfind_nil _ w
  · exact dfind_any g B l at_ s w h2
theorem plower_any (B : Nat) (p : Option Addr) (l : List Tx) (at_ : List Nat) (s : Tx) (w : World) (h : DictP w B p l at_) : Calls Try.prog 63 #[.pointer p, .string ⟨s.toArray⟩] w (fun en w' => en = .returned (.int .i64 (lowT l s : Nat)) ∧ Fr No w w') := by
  rcases h.ex with ⟨rfl, rfl, rfl⟩ | ⟨g, rfl, h2⟩
  · rw [lowT_nil]; exact lower_nil _ w
  · exact lower_any g B l at_ s w h2
theorem prange_any (B : Nat) (p : Option Addr) (l : List Tx) (at_ : List Nat) (r s : Tx) (w : World) (h : DictP w B p l at_) : Calls Try.prog 31 #[.pointer p, .string ⟨r.toArray⟩, .string ⟨s.toArray⟩] w (fun en w' => en = .returned (.tuple #[.int .i64 (lowT l r : Nat), .int .i64 (max (lowT l r) (topT l s) : Nat)]) ∧ Fr No w w') := by
  rcases h.ex with ⟨rfl, rfl, rfl⟩ | ⟨g, rfl, h2⟩
  · rw [lowT_nil, topT_nil]; exact drange_nil _ _ w
  · exact drange_any g B l at_ r s w h2

/-- what the body of a loop over Each may write: boxes of numbers. -/
def IntT (w : World) : Nat → Prop := fun k => ∀ cs t fz, w.heap[k]? = some (.cells cs t fz) → t = 3
def KpI (w w' : World) : Prop := Fr (IntT w) w w'
theorem IntT.off {w : World} {t : TypeId} (h : t ≠ 3) : Off (IntT w) w t := fun k cs fz hk hd => h (hd cs t fz hk)
theorem KpI.t {a b c : World} (h : KpI a b) (k : KpI b c) : KpI a c := by
  refine ⟨k.os.trans h.os, k.tape.trans h.tape, k.output.trans h.output, Nat.le_trans h.size k.size, fun i hi hs => ?_⟩
  have h1 := h.block i hi hs
  refine (k.block i (Nat.lt_of_lt_of_le hi h.size) (fun hd => hs ?_)).trans h1
  intro cs t fz hk
  exact hd cs t fz (h1.trans hk)
theorem KpI.b (W : World) (l : Nat) (o o' : Obj) (h : W.heap[l]? = some o) (ho : o.isCells = false) : KpI W (W.putObj l o') :=
  (Fr.of_grown (grownBy_putObj' W l o')).mono (fun i _ e => by
    have e : l = i := Option.some.inj e
    subst e
    intro cs t fz hk
    rw [h] at hk
    injection hk with hk
    subst hk
    cases ho)
end Go.Proofs.Ytcdhbdhhknlbaaa
namespace Go.Proofs.Ytcdhbdhhknlbaaa
set_option linter.unusedVariables false
set_option linter.unusedSimpArgs false
open Go.RowKit

theorem take_getD {α : Type} {l : List α} {m : Nat} (d : α) (h : m < l.length) : l.take (m + 1) = l.take m ++ [l.getD m d] := by
  rw [List.take_succ_eq_append_getElem h]
  congr 2
  simp [List.getElem?_eq_getElem h]
theorem valB_snoc (l : List Nat) (v : Nat) : valB (l ++ [v]) = valB l ++ enc v := by simp [valB]
def stepB (p s : Tx) : List UInt8 := enc (shN p s) ++ txt (s.drop (shN p s))
theorem restB_snoc (s : Tx) : ∀ (p : Tx) (l : List Tx), restB p (l ++ [s]) = restB p l ++ stepB ((p :: l).getD l.length []) s
  | p, [] => by simp [restB, stepB]
  | p, t :: r => by
    rw [List.cons_append, restB, restB, restB_snoc s t r]
    simp [List.append_assoc]
theorem termsB_one {b : List Tx} (h : 0 < b.length) : termsB (b.take 1) = txt (b.getD 0 []) := by
  rw [take_getD [] h]
  simp [termsB, restB]
theorem termsB_snoc {b : List Tx} {m : Nat} (h0 : 0 < m) (h : m < b.length) : termsB (b.take (m + 1)) = termsB (b.take m) ++ stepB (b.getD (m - 1) []) (b.getD m []) := by
  rw [take_getD [] h]
  obtain ⟨s, r, e⟩ : ∃ s r, b.take m = s :: r := by
    cases hb : b.take m with
    | nil => have := congrArg List.length hb; rw [List.length_take, List.length_nil] at this; omega
    | cons s r => exact ⟨s, r, rfl⟩
  have hr : r.length = m - 1 := by have := congrArg List.length e; rw [List.length_take, List.length_cons] at this; omega
  rw [e, List.cons_append, termsB, termsB, restB_snoc, hr, ← e, List.append_assoc]
  congr 3
  simp [List.getElem?_take, show m - 1 < m by omega]
theorem bodB_pre {l : List Tx} {at_ : List Nat} (hl : l.length = at_.length) {j : Nat} (hj : j ≤ nbT l.length) : (bodB l at_ j).length ≤ (tailB l at_ 0).length := by
  rw [tail_bod hl j hj, List.length_append]
  omega
theorem bodB_le {l : List Tx} {at_ : List Nat} (h : termsOk l at_) {j : Nat} (hj : j ≤ nbT l.length) : (bodB l at_ j).length ≤ 4500000000 := by
  have h1 := bodB_pre h.2.1 hj
  have h2 := tailB_le (at_ := at_) h.2.2.1 _ 0 rfl
  have h3 := h.1
  omega
theorem blkT_le2 {l : List Tx} {at_ : List Nat} (h : termsOk l at_) (j : Nat) : (blkT (blkOf l j) (valOf at_ j)).length ≤ 70000 := by
  have h1 := blkT_le (blkOf l j) (valOf at_ j) (fun t ht => h.2.2.1 t (mem_blk ht))
  have h2 := blkOf_len l j
  have h3 := valOf_len at_ j
  omega
theorem termsB_take_le {b : List Tx} {m : Nat} (h : ∀ t ∈ b, t.length ≤ 4096) (hb : b.length ≤ 16) : (termsB (b.take m)).length ≤ 65856 := by
  have h1 := termsB_le (b.take m) (fun t ht => h t (List.mem_of_mem_take ht))
  have h2 : (b.take m).length ≤ 16 := by rw [List.length_take]; omega
  omega
theorem valB_take_le {v : List Nat} {m : Nat} (hb : v.length ≤ 16) : (valB (v.take m)).length ≤ 160 := by
  have h1 := valB_le (v.take m)
  have h2 : (v.take m).length ≤ 16 := by rw [List.length_take]; omega
  omega
theorem getD_mem {l : List Tx} {k : Nat} (h : k < l.length) : l.getD k [] ∈ l := by
  rw [List.getD, List.getElem?_eq_getElem h]
  exact List.getElem_mem _
theorem not_asc {l : List Tx} {k : Nat} (h0 : 0 < k) (h : k < l.length) (hb : ¬ l.getD (k - 1) [] < l.getD k []) : ¬ Asc l := fun ha => hb (ha.lt (by omega) h)
theorem asc_of {l : List Tx} (h : ∀ j, 0 < j → j < l.length → l.getD (j - 1) [] < l.getD j []) : Asc l := by
  rw [asc_iff]
  intro i hi
  have := h (i + 1) (by omega) hi
  rwa [Nat.add_sub_cancel] at this
theorem le_of {l : List Tx} (h : ∀ j, j < l.length → (l.getD j []).length ≤ 4096) : ∀ t ∈ l, t.length ≤ 4096 := by
  intro t ht
  obtain ⟨j, hj, rfl⟩ := List.getElem_of_mem ht
  have := h j hj
  rwa [List.getD, List.getElem?_eq_getElem hj] at this
/-- a text of a row that is read. -/
theorem cellStr {w : World} {B : Nat} {A : Option Addr} {l : List Tx} (h : Rd w B A (svs l)) {k : Nat} (hk : k < l.length) :
    ∃ (ad : Addr) (X : ByteArray), A = some ad ∧ ad.block < B ∧ w.cell? (ad.add k) = some (.string X) ∧ X.data.toList = l.getD k [] ∧ X.toList = l.getD k [] ∧ X.size = (l.getD k []).length := by
  obtain ⟨ad, h1, h2, h3⟩ := h k _ (svs_get hk)
  exact ⟨ad, ⟨(l.getD k []).toArray⟩, h1, h2, h3, rfl, tx_list _, tx_size _⟩
theorem cellU64 {w : World} {B : Nat} {A : Option Addr} {l : List Nat} (h : Rd w B A (un l)) {k : Nat} (hk : k < l.length) :
    ∃ (ad : Addr), A = some ad ∧ ad.block < B ∧ w.cell? (ad.add k) = some (.int .u64 (l.getD k 0 : Nat)) := h k _ (un_get hk)
end Go.Proofs.Ytcdhbdhhknlbaaa
namespace Go.Proofs.Ytcdhbdhhknlbaaa
set_option linter.unusedVariables false
set_option linter.unusedSimpArgs false
open Go.RowKit
attribute [local go_sem] Oper.semAt_some

/-- ordinals and terms from a on, q of them. -/
def ordsT (l : List Tx) (a q : Nat) : List (Nat × Tx) := (List.range q).map fun i => (a + i, l.getD (a + i) [])
theorem ordsT_len (l : List Tx) (a q : Nat) : (ordsT l a q).length = q := by simp [ordsT]
theorem ordsT_succ (l : List Tx) (a q : Nat) : ordsT l a (q + 1) = ordsT l a q ++ [(a + q, l.getD (a + q) [])] := by simp [ordsT, List.range_succ]
theorem ordsT_pre (l : List Tx) (a : Nat) {q r : Nat} (h : q ≤ r) : ordsT l a q <+: ordsT l a r := by
  obtain ⟨d, rfl⟩ : ∃ d, r = q + d := ⟨r - q, by omega⟩
  unfold ordsT
  rw [List.range_add, List.map_append]
  exact List.prefix_append _ _
def encI (x : Nat × Tx) : Array Value := #[.int .i64 (x.1 : Nat), sv x.2]

theorem div16 (k : Nat) : (k : Int) / 16 = ((k / 16 : Nat) : Int) := by omega
theorem mod16 {k r : Nat} (h : k % 16 = r) : (k : Int) % 16 = (r : Int) := by omega
theorem rmb {l : List Tx} {k r : Nat} (hk : k < l.length) (hr : k % 16 = r) : r < (blkOf l (k / 16)).length := by rw [blkOf_len]; omega
theorem rget {l : List Tx} {k r : Nat} (hr : k % 16 = r) : (blkOf l (k / 16)).getD r [] = l.getD k [] := by rw [blkOf_get (by omega)]; congr 1; omega
theorem wrap_small {x : Nat} (h : x ≤ 2097152) : wrap64 (x : Int) = (x : Int) := by unfold wrap64; omega
/-- Each hands out a sequence. -/
structure BoxE (w : World) (b1 b2 b3 : Nat) (f t : Int) (p : Option Addr) : Prop where
  h1 : w.heap[b1]? = some (.cells #[.int .i64 f] 3 (0, 0))
  h2 : w.heap[b2]? = some (.cells #[.int .i64 t] 3 (0, 0))
  h3 : w.heap[b3]? = some (.cells #[.pointer p] 28 (0, 0))
theorem BoxE.fr0 {w w' : World} {b1 b2 b3 : Nat} {f t : Int} {p : Option Addr} (h : BoxE w b1 b2 b3 f t p) (fr : Fr No w w') : BoxE w' b1 b2 b3 f t p := ⟨fr.blk h.h1 (fun h => h), fr.blk h.h2 (fun h => h), fr.blk h.h3 (fun h => h)⟩
set_option maxRecDepth 100000 in
theorem eachD_any (p : Option Addr) (f t : Int) (w : World) : Calls Try.prog 12 #[.pointer p, .int .i64 f, .int .i64 t] w fun e w' => ∃ b1 b2 b3, e = .returned (.func (.func 47) #[] #[.pointer (some ⟨b1, 0, none⟩), .pointer (some ⟨b2, 0, none⟩), .pointer (some ⟨b3, 0, none⟩)]) ∧ BoxE w' b1 b2 b3 f t p ∧ Fr No w w' := by
  go_enter Try.func12, Try.ntmps12
  go_wp2
  go_ret
  refine ⟨w.heap.size + 1, w.heap.size + 1 + 1, w.heap.size, by simp,  ⟨?_, ?_, ?_⟩, (((Fr.refl No w).alloc _).alloc _).alloc _⟩
  · exact (three w _ _ _).2.1
  · exact (three w _ _ _).2.2
  · exact (three w _ _ _).1

set_option maxRecDepth 100000 in
set_option maxHeartbeats 4000000 in
theorem eachD_in (fr : Nat) (hn : 1 ≤ fr) (b1 b2 b3 B : Nat) (f t : Int) (p : Option Addr) (l : List Tx) (at_ : List Nat) (a q : Nat) (w : World) (hbox : BoxE w b1 b2 b3 f t p) (hd : DictP w B p l at_)
    (ha : a = (max f 0).toNat) (hq : q = (min t l.length).toNat - a) :
    SeqMem Fence.wide fr Try.prog 47 #[.pointer (some ⟨b1, 0, none⟩), .pointer (some ⟨b2, 0, none⟩), .pointer (some ⟨b3, 0, none⟩)] encI 94 KpI (fun x _ => x.2.length ≤ 4096 ∧ x.1 < l.length) (fun xs => xs = ordsT l a q) (fun pre => pre <+: ordsT l a q ∧ 0 < pre.length) (fun _ => False) [] q w := by
  intro lp J Jx W hW hJ hJx hY h0
  have HBx := hide (hbox.fr0 hW)
  have HD := hide (hd.fr0 hW)
  have HY := hide hY
  have HJ := hide hJ
  have HJ0 := hide h0
  have hn2 := hd.n_le
  have HLe := hide (fun nq => (plen_any B p l at_ (W.drewN nq) ((hd.fr0 hW).fr0 ((Fr.refl No W).drewN nq))).mono (R' := fun e w' => e = .returned (.int .i64 l.length) ∧ w' = W.drewN nq) (fun _ _ h => ⟨h.1, h.2.symm⟩))
  obtain ⟨n, hN⟩ : ∃ n, l.length = n := ⟨_, rfl⟩
  have HN := hide hN
  rw [hN] at hq hn2 HLe
  have c1 : W.cell? ⟨b1, 0, none⟩ = some (.int .i64 f) := cell_of_row _ _ 0 _ _ _ HBx.out.h1
  have c2 : W.cell? ⟨b2, 0, none⟩ = some (.int .i64 t) := cell_of_row _ _ 0 _ _ _ HBx.out.h2
  have c3 : W.cell? ⟨b3, 0, none⟩ = some (.pointer p) := cell_of_row _ _ 0 _ _ _ HBx.out.h3
  have hmx : max f 0 = (a : Int) := by omega
  obtain ⟨bI, hbI⟩ : ∃ bI, min t (n : Int) = bI := ⟨_, rfl⟩
  have hbn : bI ≤ n := by omega
  have hbq : ∀ i : Nat, a ≤ i → ((i : Int) < bI ↔ i < a + q) := fun i hi => by omega
  have HBq := hide hbq
  clear hbox hd hY hJ hJx h0 hW hN ha hq hbq
  refine callsIn_of_wp Try.func47 rfl trivial ?_ rfl
  simp only [Try.ntmps47, List.size_toArray, List.length_cons, List.length_nil, Nat.reduceAdd, Nat.reduceSub, Array.replicate_succ, Array.replicate_zero, List.push_toArray, List.append_toArray, List.nil_append, List.cons_append]
  refine wpIn_wide.2 ?_
  go_upto_region 1 with (fail)
  refine wp_named fun K hK => ?_
  go_cut [6, 7] from 9 to 14 (fun v6 v7 wx => v6 = .int .i64 (a : Nat) ∧ v7 = .int .i64 bI ∧ ∃ nq, wx = W.drewN nq)
  case first =>
    go_quiet ((go_at_call 14; exact Calls.quiet_of_same (HLe.out _)))
    go_wp2
    go_meet
    exact ⟨rfl, rfl, _, rfl⟩
  case rest =>
    obtain ⟨rfl, rfl, nq, rfl⟩ := hcut
    refine hK _ _ ?_
    have HFw : Hid (Fr No W (W.drewN nq)) := hide ((Fr.refl No W).drewN nq)
    have HJ1 : Hid (J [] (W.drewN nq)) := hide (HJ.out _ _ _ HJ0.out (HFw.out.any _))
    clear c1 c2 c3 HLe hmx hK hbI
    have HB1 := hide (HBx.out.fr0 HFw.out)
    have HD1 := hide (HD.out.fr0 HFw.out)
    have HWs : Hid (W.heap.size ≤ (W.drewN nq).heap.size) := hide HFw.out.size
    generalize W.drewN nq = w1 at HFw HJ1 HB1 HD1 HWs ⊢
    go_wp2_with (fail)
    go_loopw [8, 5] (fun i v wr => ∃ (k : Nat) (pre : List (Nat × Tx)), i = .int .i64 k ∧ a ≤ k ∧ Hid (k ≤ a + q) ∧ Hid (pre = ordsT l a (k - a)) ∧ Hid (a < k → ∃ L m, m = (blkOf l ((k - 1) / 16)).length ∧ v = .slice (some ⟨L, 0, none⟩) m m ∧ Own wr 0 9 1 v m (svs (blkOf l ((k - 1) / 16)))) ∧ Hid (DictP wr B p l at_) ∧ Hid (wr.heap[b3]? = some (.cells #[.pointer p] 28 (0, 0))) ∧ Hid (J pre wr) ∧ Hid (W.heap.size ≤ wr.heap.size)) (fun i _ _ => n - (intOf i).toNat)
    case atStart => exact ⟨a, [], rfl, Nat.le_refl _, hide (by omega), hide (by simp [ordsT]), hide (fun h => by omega), HD1, hide HB1.out.h3, HJ1, HWs⟩
    case round =>
      obtain ⟨wo, rfl⟩ : ∃ wo : World, wo = wr := ⟨_, rfl⟩
      obtain ⟨k, pre, rfl, hak, HKq, HPre, HOw, HDo, HBo, HJo, HSo⟩ := hrel
      clear HB1 HD1 HJ1 HWs HFw
      by_cases hlt : (k : Int) < bI
      · have hkn : k < n := by omega
        have hkl : k < l.length := by rw [HN.out]; exact hkn
        obtain ⟨g, rfl, hgm⟩ : ∃ g, p = some ⟨g, 0, none⟩ ∧ DictM wo B g l at_ := by
          rcases HDo.out.ex with ⟨_, h, _⟩ | h
          · rw [h] at hkl; simp at hkl
          · exact h
        have HBl := hide (dblock_any g B (k / 16) l at_ wo hgm (by omega))
        have k3 : wo.cell? ⟨b3, 0, none⟩ = some (.pointer (some ⟨g, 0, none⟩)) := cell_of_row _ _ 0 _ _ _ HBo.out
        have iq : (k : Int) / 16 = ((k / 16 : Nat) : Int) := div16 k
        have iw : wrap64 ((k / 16 : Nat) : Int) = ((k / 16 : Nat) : Int) := wrap_small (by omega)
        obtain ⟨r, hr⟩ : ∃ r : Nat, k % 16 = r := ⟨_, rfl⟩
        have ir : (k : Int) % 16 = (r : Int) := mod16 hr
        have irw : wrap64 (r : Int) = (r : Int) := wrap_small (by omega)
        have HRr := hide hr
        have hmb : r < (blkOf l (k / 16)).length := rmb hkl hr
        have HMb := hide hmb
        have HX : Hid ((blkOf l (k / 16)).getD r [] = l.getD k []) := hide (rget hr)
        obtain ⟨j, hj⟩ : ∃ j, k / 16 = j := ⟨_, rfl⟩
        have HJj := hide hj
        rw [hj] at HBl iq iw HMb HX
        clear hgm hr hmb hkl hj
        obtain ⟨gb, hgb⟩ : ∃ gb : Bool, gb = decide (k = a ∨ r = 0) := ⟨_, rfl⟩
        have HGb := hide hgb
        clear hgb
        go_upto_region 5 with (fail)
        refine wp_named fun K hK => ?_
        go_cut [28] from 21 to 28 (fun v wx => v = .bool gb ∧ wx = wo)
        case first =>
          by_cases hka : k = a
          · have e1 : ((k : Int) == (a : Int)) = true := by simp; omega
            have e1b : (k == a) = true := by simpa using hka
            have HX2 : Hid (gb = true) := hide (by rw [HGb.out]; simp [hka])
            clear hka
            go_wp2_with (fail)
            go_meet
            exact ⟨by rw [HX2.out], rfl⟩
          · have e1 : ((k : Int) == (a : Int)) = false := by simp; omega
            have e1b : (k == a) = false := by simpa using hka
            have e2 : ((r : Int) == 0) = decide (r = 0) := by
              by_cases h : r = 0 <;> simp [h]
            have HX2 : Hid (gb = decide (r = 0)) := hide (by rw [HGb.out]; simp [hka])
            rw [← HX2.out] at e2
            clear hka
            go_wp2_with (fail)
            go_meet
            exact ⟨by first | rfl | rw [e2], rfl⟩
        case rest =>
          obtain ⟨rfl, rfl⟩ := hcut
          refine hK _ _ ?_
          clear hK
          obtain ⟨wo, rfl⟩ : ∃ W : World, W = wc := ⟨_, rfl⟩
          go_upto_if 28 with (fail)
          refine wp_named fun K hK => ?_
          go_cut [5] from 29 to 35 (fun v wx => ∃ L m, m = (blkOf l j).length ∧ v = .slice (some ⟨L, 0, none⟩) m m ∧ Hid (Own wx 0 9 1 v m (svs (blkOf l j))) ∧ Hid (Fr No wo wx))
          case first =>
            cases hgb : gb with
            | true =>
              subst hgb
              go_wp2_with (go_at_call 48; refine HBl.out.mono ?_; rintro en w2 ⟨hfr, L, V, m, hm, rfl, ho1, ho2⟩; have HF := hide hfr; have HO1 := hide ho1; have HM := hide hm; clear hfr ho1 ho2 hm)
              go_meet
              exact ⟨L, m, HM.out, rfl, hide (HO1.out.lower (Nat.zero_le _)), HF⟩
            | false =>
              have hg0 := HGb.out
              rw [hgb] at hg0
              have hg := of_decide_eq_false hg0.symm
              have HOw2 := HOw.out (by omega)
              rw [show (k - 1) / 16 = j by have h1 := HJj.out; have h2 := HRr.out; omega] at HOw2
              have HOw3 := hide HOw2
              clear hg0 hg HOw2
              subst hgb
              go_wp2_with (fail)
              go_meet
              obtain ⟨L, m, h1, h2, h3⟩ := HOw3.out
              exact ⟨L, m, h1, h2, hide h3, hide (Fr.refl _ _)⟩
          case rest =>
            obtain ⟨L, m, hm, rfl, HOb, HFb⟩ := hcut
            obtain ⟨w5, rfl⟩ : ∃ W : World, W = wc := ⟨_, rfl⟩
            have HJ5 := hide (HJ.out _ _ _ HJo.out (HFb.out.any _))
            have HD5 := hide (HDo.out.fr0 HFb.out)
            have HB5 := hide (HFb.out.blk HBo.out (fun h => h))
            have HS5 : Hid (W.heap.size ≤ w5.heap.size) := hide (Nat.le_trans HSo.out HFb.out.size)
            have hkq : k < a + q := (HBq.out k hak).1 hlt
            have HPl : Hid (pre.length = k - a) := hide (by rw [HPre.out, ordsT_len])
            obtain ⟨fn, tmps, assign, body, hy, hR⟩ := HY.out pre (k, l.getD k []) w5 HJ5.out ⟨HD5.out.le _ (getD_mem (by rw [HN.out]; exact hkn)), by show k < l.length; rw [HN.out]; exact hkn⟩ (by rw [HPl.out]; omega)
            have HR := hide hR
            have HOc := HOb.out
            obtain ⟨L1, e1, _, _, kc, _⟩ := HOb.out.store (k := r) (by rw [hm]; exact HMb.out)
            injection e1 with e1
            injection e1 with e1 _ _
            subst e1
            rw [svs_get HMb.out, HX.out] at kc
            have i1 : (0 : Int) ≤ (r : Int) := by omega
            have i2 : (r : Int) < (m : Int) := by have := HMb.out; omega
            have HM := hide hm
            obtain ⟨X, hX⟩ : ∃ X : ByteArray, (⟨(l.getD k []).toArray⟩ : ByteArray) = X := ⟨_, rfl⟩
            unfold encI at hy
            dsimp only at hy
            rw [sv, hX] at hy kc
            clear hR hX hm HOc HJo HDo HBo HSo HFb HBl k3 iq iw HOw HBq
            refine hK _ _ ?_
            clear hK
            gi_wp2
            refine wp_named fun K hK => ?_
            have HKK := hide hK
            clear hK
            refine (wpIn_wide (n := fr)).1 ?_
            gi_wp2
            refine HR.out.mono ?_
            rintro en W3 (⟨rfl, hJ3, hk3⟩ | ⟨rfl, hJx3⟩)
            · have HJ3 := hide hJ3
              have HD3 := hide (HD5.out.off hk3 (IntT.off (by decide)) (IntT.off (by decide)) (IntT.off (by decide)) (IntT.off (by decide)))
              have HB3 := hide (Fr.blk hk3 HB5.out (fun hd => IntT.off (by decide) _ _ _ HB5.out hd))
              have HO3 := hide (HOb.out.off hk3 (IntT.off (by decide)))
              have HZ3 : Hid (W.heap.size ≤ W3.heap.size) := hide (Nat.le_trans HS5.out (Fr.size hk3))
              clear hy hJ3 hk3
              gi_wp2
              refine HKK.out _ _ ?_
              go_wp2
              go_roundw
              case rel => exact ⟨k + 1, pre ++ [(k, l.getD k [])], by go_num, by omega, hide (by omega), hide (by rw [HPre.out, show k + 1 - a = (k - a) + 1 by omega, ordsT_succ, show a + (k - a) = k by omega]), hide (fun _ => ⟨L, m, by rw [Nat.add_sub_cancel, HJj.out]; exact HM.out, rfl, by rw [Nat.add_sub_cancel, HJj.out]; exact HO3.out⟩), HD3, HB3, HJ3, HZ3⟩
              case measure => simp [intOf]; omega
            · have HX3 := hide hJx3
              clear hy hJx3
              gi_wp2
              refine bodyPost_ret (results_none rfl _ _ _) rfl ?_
              refine .inl ⟨⟨_, rfl⟩, .inr ⟨_, ⟨?_, by simp⟩, HX3.out⟩⟩
              have h1 : pre ++ [(k, l.getD k [])] = ordsT l a (k - a + 1) := by rw [HPre.out, ordsT_succ, show a + (k - a) = k by omega]
              rw [h1]
              exact ordsT_pre l a (by omega)
      · have hkq : k = a + q := by have h1 := HKq.out; have h2 := HBq.out k hak; omega
        have HPq : Hid (pre = ordsT l a q) := hide (by rw [HPre.out, hkq, Nat.add_sub_cancel_left])
        have d1 : decide ((k : Int) < bI) = false := decide_eq_false hlt
        clear hkq hlt
        refine (wpIn_wide (n := fr)).1 ?_
        gi_wp2
        go_end0
        exact .inl ⟨⟨_, rfl⟩, .inl ⟨_, HPq.out, HJo.out⟩⟩
end Go.Proofs.Ytcdhbdhhknlbaaa
