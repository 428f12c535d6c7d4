/- Several texts in one: VaCo, VaRo, VaNc, VaFi, SlEq, VaOn, Kit8, WpN, Bulk, TextP, TakeS, TxV. -/
import Derived.Test.YtnjcncidlhllmaaGreatK11
import Derived.BigQuiet
import Derived.TacticsInMore
import Derived.JoinedCond
import Derived.Laws.BytesString
import Derived.Deep.RegionWith
import Derived.Sort.Walk0
namespace Go.Proofs.YtnjcncidlhllmaaGreat
set_option linter.unusedVariables false
set_option linter.unusedSimpArgs false
open Go.RowKit

/-- a column in memory: at block G, cell 0: where rows end; cell 1: their numbers. -/
structure ColM (w : World) (B G : Nat) (bits : List UInt8) (lens all : List Int) (n : Nat) : Prop where
  cell : ∃ A1 c1 A2 c2, w.cell? ⟨G, 0, none⟩ = some (.slice A1 n c1) ∧ w.cell? ⟨G, 1, none⟩ = some (.slice A2 all.length c2) ∧ n ≤ c1 ∧ c1 ≤ maxLen ∧ all.length ≤ c2 ∧ c2 ≤ maxLen ∧ Rd w B A1 (iz .i64 (endsV bits lens n)) ∧ Rd w B A2 (iz .i64 all)
  fit : atV bits lens n = all.length
theorem ColM.fr0 {w w' : World} {B G n : Nat} {bits : List UInt8} {lens all : List Int} (h : ColM w B G bits lens all n) (f : Fr No w w') : ColM w' B G bits lens all n := by
  obtain ⟨A1, c1, A2, c2, h1, h2, h3, h4, h5, h6, h7, h8⟩ := h.cell
  exact ⟨⟨A1, c1, A2, c2, f.cell h1 (fun h => h), f.cell h2 (fun h => h), h3, h4, h5, h6, h7.fr0 f, h8.fr0 f⟩, h.fit⟩
set_option maxRecDepth 100000 in
set_option maxHeartbeats 400000 in
theorem colLen_any {w : World} {B G n : Nat} {bits : List UInt8} {lens all : List Int} (h : ColM w B G bits lens all n) :
    Calls Tryz.prog 56 #[.pointer (some ⟨G, 0, none⟩)] w (Ret (.int .i64 (n : Nat)) w) := by
  obtain ⟨A1, c1, A2, c2, h1, h2, h3, h4, h5, h6, h7, h8⟩ := h.cell
  unfold maxLen at h4
  clear h h7 h8
  go_enter Tryz.func56, Tryz.ntmps56
  go_wp2
  go_ret
  exact ⟨rfl, rfl⟩
theorem endsV_at (bits : List UInt8) (lens : List Int) {n i : Nat} (h : i < n) : (endsV bits lens n).getD i 0 = ((atV bits lens (i + 1) : Nat) : Int) := by
  rw [List.getD, List.getElem?_eq_getElem (by rw [endsV_len]; exact h)]
  simp [endsV]
/-- a row that is read, in the column's own memory. -/
def GivesRow (w : World) (B : Nat) (l : List Int) (en : Ending) (w' : World) : Prop := ∃ A c, en = .returned (.slice A l.length c) ∧ l.length ≤ c ∧ c ≤ maxLen ∧ Rd w B A (iz .i64 l) ∧ ∃ q, w' = w.drewN q
set_option maxRecDepth 100000 in
set_option maxHeartbeats 400000 in
theorem colRow_out {w : World} {B G n : Nat} {bits : List UInt8} {lens all : List Int} (h : ColM w B G bits lens all n) (i : Int) (hi : i < 0 ∨ (n : Int) ≤ i) :
    Calls Tryz.prog 58 #[.pointer (some ⟨G, 0, none⟩), .int .i64 i] w (Ret (.slice none 0 0) w) := by
  have HL := hide (colLen_any h)
  clear h
  by_cases h0 : i < 0
  · have d0 : decide (i < 0) = true := decide_eq_true h0
    clear hi h0
    go_enter Tryz.func58, Tryz.ntmps58
    go_wp2_with (go_at_call 56; refine HL.out.mono ?_; rintro en w' ⟨rfl, rfl⟩)
    go_ret
    exact ⟨rfl, rfl⟩
  · have d0 : decide (i < 0) = false := decide_eq_false h0
    have h1 : (n : Int) ≤ i := by omega
    have d1 : decide ((n : Int) ≤ i) = true := decide_eq_true h1
    clear hi h0 h1
    go_enter Tryz.func58, Tryz.ntmps58
    go_wp2_with (go_at_call 56; refine HL.out.mono ?_; rintro en w' ⟨rfl, rfl⟩)
    go_ret
    exact ⟨rfl, rfl⟩
theorem rd_empty (w : World) (B : Nat) (A : Option Addr) : Rd w B A (iz .i64 []) := fun j u hu => by simp [iz] at hu
theorem rd_cut {w : World} {B c f t : Nat} {A : Option Addr} {l : List Int} (h : Rd w B A (iz .i64 l)) (h1 : l.length ≤ c) (h2 : t ≤ l.length) : Rd w B (if c = f then A else Option.map (fun x => x.add f) A) (iz .i64 ((l.drop f).take (t - f))) := by
  by_cases e : c = f
  · rw [if_pos e, show t - f = 0 by omega, List.take_zero]
    exact rd_empty _ _ _
  · rw [if_neg e]
    cases A with
    | none =>
      have h0 := h.iz_nil
      subst h0
      simp only [List.drop_nil, List.take_nil]
      exact rd_empty _ _ _
    | some ad =>
      have h3 := (h.dr f).tk (t - f)
      rw [← iz_drop, ← iz_take] at h3
      exact h3
set_option maxRecDepth 100000 in
set_option maxHeartbeats 1000000 in
theorem colRow_in {w : World} {B G n i : Nat} {bits : List UInt8} {lens all : List Int} (h : ColM w B G bits lens all n) (hi : i < n) (hn : n ≤ 16384) :
    Calls Tryz.prog 58 #[.pointer (some ⟨G, 0, none⟩), .int .i64 (i : Nat)] w (GivesRow w B (rowV bits lens all i)) := by
  have HL := hide (colLen_any h)
  obtain ⟨A1, c1, A2, c2, h1, h2, h3, h4, h5, h6, h7, h8⟩ := h.cell
  have hto := atV_mono bits lens (i := i + 1) (j := n) (by omega)
  have hft := atV_mono bits lens (i := i) (j := i + 1) (by omega)
  rw [h.fit] at hto
  obtain ⟨fm, hfm⟩ : ∃ x, x = atV bits lens i := ⟨_, rfl⟩
  obtain ⟨tt, hto'⟩ : ∃ x, x = atV bits lens (i + 1) := ⟨_, rfl⟩
  have hrow : rowV bits lens all i = (all.drop fm).take (tt - fm) := by rw [rowV, hfm, hto']
  have hrl : (rowV bits lens all i).length = tt - fm := by rw [hrow, List.length_take, List.length_drop]; omega
  obtain ⟨ad1, rfl, _, hce⟩ := h7.intAt (j := i) (by rw [endsV_len]; exact hi)
  rw [endsV_at bits lens hi, ← hto'] at hce
  have hcp : 0 < i → w.cell? (ad1.add (i - 1)) = some (.int .i64 (fm : Nat)) := fun h0 => by
    obtain ⟨ad, e, _, hc⟩ := h7.intAt (j := i - 1) (by rw [endsV_len]; omega)
    injection e with e
    subst e
    rw [endsV_at bits lens (by omega), show i - 1 + 1 = i by omega, ← hfm] at hc
    exact hc
  have hf0 : i = 0 → fm = 0 := fun h0 => by subst h0; exact hfm
  have HRow := hide hrow
  have HRl := hide hrl
  have HR2 := hide h8
  rw [← hto'] at hto
  rw [← hfm, ← hto'] at hft
  obtain ⟨al, hal⟩ : ∃ x, x = all.length := ⟨_, rfl⟩
  rw [← hal] at h2 h5 hto
  unfold maxLen at h4 h6
  clear h h7 h8 hfm hto' hrow hrl
  by_cases h0 : i = 0
  · subst h0
    have hfz : fm = 0 := hf0 rfl
    subst hfz
    rw [Addr.add_zero'] at hce
    clear hcp hf0
    go_enter Tryz.func58, Tryz.ntmps58
    go_upto_region 6 with (go_at_call 56; refine HL.out.mono ?_; rintro en w' ⟨rfl, rfl⟩)
    go_quiet (fail)
    go_wp2
    go_ret
    have hr := HR2.out.tk tt
    rw [← iz_take] at hr
    have hrw : rowV bits lens all 0 = all.take tt := by rw [HRow.out, List.drop_zero, Nat.sub_zero]
    exact ⟨A2, c2, by rw [HRl.out]; rfl, by rw [HRl.out]; omega, by unfold maxLen; omega, by rw [hrw]; exact hr, _, rfl⟩
  · have hce0 := hcp (by omega)
    have d0 : decide (0 < i) = true := decide_eq_true (by omega)
    clear hcp hf0
    go_enter Tryz.func58, Tryz.ntmps58
    go_upto_region 6 with (go_at_call 56; refine HL.out.mono ?_; rintro en w' ⟨rfl, rfl⟩)
    go_quiet (fail)
    go_wp2
    · go_ret
      exact ⟨A2, 0, by rw [HRl.out]; rfl, by rw [HRl.out]; omega, by decide, by rw [HRow.out, show tt - fm = 0 by omega, List.take_zero]; exact rd_empty _ _ _, _, rfl⟩
    · go_ret
      have h9 := rd_cut (c := c2) (f := fm) (t := tt) HR2.out (by omega) (by omega)
      rw [if_neg (by omega)] at h9
      exact ⟨_, c2 - fm, by rw [HRl.out]; rfl, by rw [HRl.out]; omega, by unfold maxLen; omega, by rw [HRow.out]; exact h9, _, rfl⟩
end Go.Proofs.YtnjcncidlhllmaaGreat
namespace Go.Proofs.YtnjcncidlhllmaaGreat
set_option linter.unusedVariables false
set_option linter.unusedSimpArgs false
open Go.RowKit

/-- rows that lie in memory below B. -/
def RowsAt (w : World) (B : Nat) (vals : List Value) (rows : Rw) : Prop := vals.length = rows.length ∧ ∀ (j : Nat) l, rows[j]? = some l → ∃ A c, vals[j]? = some (.slice A l.length c) ∧ l.length ≤ c ∧ c ≤ maxLen ∧ Rd w B A (iz .i64 l)
theorem RowsAt.fr0 {w w' : World} {B : Nat} {vals : List Value} {rows : Rw} (h : RowsAt w B vals rows) (f : Fr No w w') : RowsAt w' B vals rows := ⟨h.1, fun j l hj => by
  obtain ⟨A, c, h1, h2, h3, h4⟩ := h.2 j l hj
  exact ⟨A, c, h1, h2, h3, h4.fr0 f⟩⟩
theorem RowsAt.snoc {w : World} {B : Nat} {vals : List Value} {rows : Rw} (h : RowsAt w B vals rows) {A : Option Addr} {c : Nat} {l : List Int} (h1 : l.length ≤ c) (h2 : c ≤ maxLen) (h3 : Rd w B A (iz .i64 l)) : RowsAt w B (vals ++ [.slice A l.length c]) (rows ++ [l]) := by
  refine ⟨by simp [h.1], fun j l' hj => ?_⟩
  by_cases hlt : j < rows.length
  · rw [List.getElem?_append_left hlt] at hj
    obtain ⟨A', c', k1, k2⟩ := h.2 j l' hj
    exact ⟨A', c', by rw [List.getElem?_append_left (by rw [h.1]; exact hlt)]; exact k1, k2⟩
  · have hj1 := (List.getElem?_eq_some_iff.1 hj).1
    have e : j = rows.length := by simp at hj1; omega
    subst e
    rw [List.getElem?_append_right (Nat.le_refl _), Nat.sub_self] at hj
    simp at hj
    subst hj
    exact ⟨A, c, by rw [← h.1, List.getElem?_append_right (Nat.le_refl _), Nat.sub_self]; rfl, h1, h2, h3⟩
theorem RowsAt.isl {w : World} {B : Nat} {vals : List Value} {rows : Rw} (h : RowsAt w B vals rows) (hB : B ≤ w.heap.size) {A : Option Addr} (hr : Rd w w.heap.size A vals) : ISl w w.heap.size A rows := fun j l hj => by
  obtain ⟨A', c', k1, k2, k3, k4⟩ := h.2 j l hj
  obtain ⟨ad, e, hb, hc⟩ := hr j _ k1
  exact ⟨ad, A', c', e, hb, hc, k2, k3, k4.more hB⟩
theorem rowsV_succ (bits : List UInt8) (lens all : List Int) (n : Nat) : rowsV bits lens all (n + 1) = rowsV bits lens all n ++ [rowV bits lens all n] := by simp [rowsV, List.range_succ]
def GivesRows (w : World) (n : Nat) (rows : Rw) (en : Ending) (w' : World) : Prop := ∃ A c, en = .returned (.slice A n c) ∧ n ≤ c ∧ c ≤ maxLen ∧ ISl w' w'.heap.size A rows ∧ Fr No w w'
set_option maxRecDepth 100000 in
set_option maxHeartbeats 1000000 in
theorem rows_any {w : World} {B G n : Nat} {bits : List UInt8} {lens all : List Int} (h : ColM w B G bits lens all n) (hn : n ≤ 16384) (hB : B ≤ w.heap.size) :
    Calls Tryz.prog 40 #[.pointer (some ⟨G, 0, none⟩)] w (GivesRows w n (rowsV bits lens all n)) := by
  obtain ⟨i1, hi1, hz1, hsz1, hby1⟩ := info_parts Tryz.infoRI
  have HL := hide (colLen_any h)
  have HH := hide h
  clear h
  go_enter Tryz.func40, Tryz.ntmps40
  go_wp2_with (go_at_call 56; refine HL.out.mono ?_; rintro en w' ⟨rfl, rfl⟩)
  go_loopw [3, 4, 7] (fun v3 _ i wr => ∃ (k : Nat) (vals : List Value), k ≤ n ∧ i = .int .i64 (k : Nat) ∧ Hid (Fr No w wr) ∧ Hid (Own wr w.heap.size 41 1 v3 k vals) ∧ Hid (RowsAt wr B vals (rowsV bits lens all k))) (fun _ _ i _ => n - (intOf i).toNat)
  case atStart => exact ⟨0, [], by omega, by go_num, hide (Fr.refl _ _), hide (Own.nil _ _ _ _), hide ⟨rfl, fun j l hj => by simp [rowsV] at hj⟩⟩
  case round =>
    obtain ⟨k, vals, hk, rfl, HF, HO, HV⟩ := hrel
    by_cases hlt : k < n
    · have HR := hide (colRow_in (HH.out.fr0 HF.out) hlt hn)
      have hws := HF.out.size
      have b1 : (k + 1) * 24 ≤ 140737488355328 := by omega
      have b2 : k + 1 ≤ maxLen := by unfold maxLen; omega
      go_wp2_with (first
        | (go_at_call 58; refine HR.out.mono ?_; rintro en w2 ⟨A2, c2, rfl, q1, q2, q3, nq, hw2⟩; have hf2 : Fr No u0w w2 := (by rw [hw2]; exact (Fr.refl No _).drewN nq); skip)
        | (go_at_call 58; refine HR.out.mono ?_; rintro en w2 ⟨A2, c2, rfl, q1, q2, q3, nq, hw2⟩; obtain ⟨li, hli⟩ : ∃ x, x = (rowV bits lens all k).length := ⟨_, rfl⟩; rw [← hli] at q1 ⊢; have HLI := hide hli; have HF2 : Hid (Fr No w w2) := hide (by rw [hw2]; exact HF.out.drewN nq); have HO2 := hide (show Own w2 w.heap.size 41 1 u3 k vals by rw [hw2]; exact HO.out.fr0 ((Fr.refl No _).drewN nq)); have HV2 := hide (show RowsAt w2 B vals (rowsV bits lens all k) by rw [hw2]; exact HV.out.fr0 ((Fr.refl No _).drewN nq)); have HQ2 := hide q2; have HQ3 := hide (show Rd w2 B A2 (iz .i64 (rowV bits lens all k)) by rw [hw2]; exact q3.fr0 ((Fr.refl No _).drewN nq)); have HOut := hide (HO2.out.fr0 ((Fr.refl No w2).alloc (.cells #[.slice A2 li c2] 41))); have hz3 : w.heap.size ≤ (w2.alloc (.cells #[.slice A2 li c2] 41)).heap.size := (by have := HF2.out.size; simp; omega); unfold maxLen at q2; clear q3 hw2 hli)
        | (at_builtin; refine wpList_append_gen _ rfl (.tmp 10) (.tmp 14) 22 22 rfl w.heap.size 41 i1 (.slice none 0 0) 1 24 Tryz.underlying22 hi1 hz1 hsz1 hby1 rfl u3 k _ rfl HOut.out _ 1 [.slice A2 li c2] rfl (src_row w2 A2 li c2) b1 b2 hz3 ?_; intro v5 w5 hown hfr hat; have HO5 := hide hown; have HFa := hide hfr; clear hown hfr hat))
      go_roundw
      case rel =>
        have hVa := HV2.out.fr0 ((Fr.refl No w2).alloc (.cells #[.slice A2 li c2] 41))
        have hQa := HQ3.out.fr0 ((Fr.refl No w2).alloc (.cells #[.slice A2 li c2] 41))
        have hBl : ∀ i, i < B → ¬ (u3.ownBlock = some i) := fun i hi e => by have := (HO.out.lt i e).1; omega
        refine ⟨k + 1, vals ++ [.slice A2 li c2], by omega, by go_num, hide ((HF2.out.alloc _).own HFa.out (fun g hg => .inl (HOut.out.lt g hg).1)), HO5, hide ?_⟩
        rw [rowsV_succ, HLI.out]
        refine RowsAt.snoc ?_ (by rw [← HLI.out]; exact q1) HQ2.out (hQa.fr HFa.out hBl)
        exact ⟨hVa.1, fun j l hj => by
          obtain ⟨A, c, k1, k2, k3, k4⟩ := hVa.2 j l hj
          exact ⟨A, c, k1, k2, k3, k4.fr HFa.out hBl⟩⟩
      case measure => simp [intOf]; omega
    · obtain rfl : k = n := by omega
      obtain ⟨A4, c4, rfl, q1, q2, _, q3, _⟩ := HO.out.form
      have HI := hide (HV.out.isl (Nat.le_trans hB HF.out.size) q3)
      have HQ2 := hide q2
      unfold maxLen at q2
      clear q3
      go_wp2
      go_ret
      exact ⟨A4, c4, rfl, q1, HQ2.out, HI.out, HF.out⟩
end Go.Proofs.YtnjcncidlhllmaaGreat
namespace Go.Proofs.YtnjcncidlhllmaaGreat
set_option linter.unusedVariables false
set_option linter.unusedSimpArgs false
open Go.RowKit

set_option maxRecDepth 100000 in
set_option maxHeartbeats 400000 in
theorem numLen_any {w : World} {B G n : Nat} {bits : List UInt8} {lens all : List Int} (h : ColM w B G bits lens all n) :
    Calls Tryz.prog 15 #[.pointer (some ⟨G, 0, none⟩)] w (Ret (.int .i64 (n : Nat)) w) := by
  have HL := hide (colLen_any h)
  clear h
  go_enter Tryz.func15, Tryz.ntmps15
  go_wp2_with (go_at_call 56; refine HL.out.mono ?_; rintro en w' ⟨rfl, rfl⟩)
  go_ret
  exact ⟨rfl, rfl⟩
set_option maxRecDepth 100000 in
set_option maxHeartbeats 400000 in
theorem numRow_out {w : World} {B G n : Nat} {bits : List UInt8} {lens all : List Int} (h : ColM w B G bits lens all n) (i : Int) (hi : i < 0 ∨ (n : Int) ≤ i) :
    Calls Tryz.prog 16 #[.pointer (some ⟨G, 0, none⟩), .int .i64 i] w (GivesL w []) := by
  have HL := hide (colRow_out h i hi)
  have HC := hide (cloneI64_any none 0 0 0 [] w rfl (Nat.le_refl _) (Nat.zero_le _) (Nat.zero_le _) (rd_empty _ _ _))
  clear h hi
  go_enter Tryz.func16, Tryz.ntmps16
  go_wp2_with (first
    | (go_at_call 58; refine HL.out.mono ?_; rintro en w' ⟨rfl, rfl⟩)
    | (go_at_call 57; refine HC.out.mono ?_; rintro en w2 ⟨v, rfl, hown, hf⟩; have HO := hide hown; have HF := hide hf; clear hown hf))
  go_ret
  exact ⟨_, rfl, HO.out, HF.out⟩
set_option maxRecDepth 100000 in
set_option maxHeartbeats 400000 in
theorem numRow_in {w : World} {B G n i : Nat} {bits : List UInt8} {lens all : List Int} (h : ColM w B G bits lens all n) (hi : i < n) (hn : n ≤ 16384) (hl : (rowV bits lens all i).length ≤ 64) :
    Calls Tryz.prog 16 #[.pointer (some ⟨G, 0, none⟩), .int .i64 (i : Nat)] w (GivesL w (rowV bits lens all i)) := by
  have HL := hide (colRow_in h hi hn)
  obtain ⟨l, hll⟩ : ∃ l, l = rowV bits lens all i := ⟨_, rfl⟩
  rw [← hll] at HL hl ⊢
  clear h hi hll
  go_enter Tryz.func16, Tryz.ntmps16
  go_wp2_with (first
    | (go_at_call 58; refine HL.out.mono ?_; rintro en w1 ⟨A, c, rfl, q1, q2, q3, nq, hw⟩; have HF1 : Hid (Fr No w w1) := hide (by rw [hw]; exact (Fr.refl No w).drewN nq); have HC := hide (cloneI64_any A l.length c B l w1 rfl q1 q2 (by omega) (by rw [hw]; exact q3.fr0 ((Fr.refl No w).drewN nq))); clear hw q3)
    | (go_at_call 57; refine HC.out.mono ?_; rintro en w2 ⟨v, rfl, hown, hf⟩; have HO := hide hown; have HF := hide hf; clear hown hf))
  go_ret
  exact ⟨_, rfl, HO.out.lower HF1.out.size, HF1.out.trans HF.out (fun _ _ h => h.elim)⟩
end Go.Proofs.YtnjcncidlhllmaaGreat
namespace Go.Proofs.YtnjcncidlhllmaaGreat
set_option linter.unusedVariables false
set_option linter.unusedSimpArgs false
open Go.RowKit

theorem filV_snoc (rows : Rw) (l : List Int) : filV (rows ++ [l]) = filV rows + (if l.length = 0 then 0 else 1) := by
  unfold filV
  rw [List.filter_append, List.length_append]
  congr 1
  cases l <;> simp
set_option maxRecDepth 100000 in
set_option maxHeartbeats 1000000 in
theorem filled_any {w : World} {B G n : Nat} {bits : List UInt8} {lens all : List Int} (h : ColM w B G bits lens all n) (hn : n ≤ 16384) :
    Calls Tryz.prog 25 #[.pointer (some ⟨G, 0, none⟩)] w (RetQ (.int .i64 (filV (rowsV bits lens all n) : Nat)) w) := by
  have HL := hide (numLen_any h)
  have HH := hide h
  clear h
  go_enter Tryz.func25, Tryz.ntmps25
  go_wp2_with (go_at_call 15; refine HL.out.mono ?_; rintro en w' ⟨rfl, rfl⟩)
  go_loopw [3, 4, 7] (fun v3 _ i wr => ∃ (k f nq : Nat), k ≤ n ∧ i = .int .i64 (k : Nat) ∧ f ≤ k ∧ v3 = .int .i64 (f : Nat) ∧ Hid (f = filV (rowsV bits lens all k)) ∧ Hid (wr = w.drewN nq)) (fun _ _ i _ => n - (intOf i).toNat)
  case atStart => exact ⟨0, 0, 0, by omega, by go_num, by omega, by go_num, hide rfl, hide rfl⟩
  case round =>
    obtain ⟨k, f, nq, hk, rfl, hfk, rfl, HFk, HW⟩ := hrel
    by_cases hlt : k < n
    · have HR := hide (colRow_in (HH.out.fr0 (show Fr No w wr by rw [HW.out]; exact (Fr.refl No w).drewN nq)) hlt hn)
      have HS := hide (show filV (rowsV bits lens all (k + 1)) = f + (if (rowV bits lens all k).length = 0 then 0 else 1) by rw [rowsV_succ, filV_snoc, HFk.out])
      obtain ⟨li, hli⟩ : ∃ x, x = (rowV bits lens all k).length := ⟨_, rfl⟩
      rw [← hli] at HS
      have HLI := hide hli
      obtain ⟨o, ho⟩ : ∃ x, x = (if li = 0 then 0 else 1) := ⟨_, rfl⟩
      rw [← ho] at HS
      have ho1 : o ≤ 1 := by rw [ho]; split <;> omega
      have hmin : min (1 : Int) (li : Int) = (o : Int) := by rw [ho]; split <;> omega
      clear ho hli
      go_wp2_with (go_at_call 58; refine HR.out.mono ?_; rintro en w1 ⟨A, c, rfl, q1, q2, q3, n1, hw⟩; rw [← HLI.out] at q1 ⊢; have HW1 := hide hw; unfold maxLen at q2; clear hw q3)
      go_roundw
      case rel => exact ⟨k + 1, f + o, _, by omega, by go_num, by omega, by go_num, hide HS.out.symm, hide (by rw [HW1.out, HW.out]; exact World.drewN_drewN _ _ _)⟩
      case measure => simp [intOf]; omega
    · obtain rfl : k = n := by omega
      go_wp2
      go_ret
      exact ⟨by rw [HFk.out]; rfl, nq, HW.out⟩
end Go.Proofs.YtnjcncidlhllmaaGreat
namespace Go.Proofs.YtnjcncidlhllmaaGreat
set_option linter.unusedVariables false
set_option linter.unusedSimpArgs false
open Go.RowKit

set_option maxRecDepth 100000 in
set_option maxHeartbeats 800000 in
theorem sleq_any (A B : Option Addr) (n c m d b1 b2 : Nat) (xs ys : List UInt8) (w : World) (hx : xs.length = n) (hy : ys.length = m) (hn : n ≤ c) (hc : c ≤ maxLen) (hm : m ≤ d) (hd : d ≤ maxLen) (hr : Rd w b1 A (by8 xs)) (hs : Rd w b2 B (by8 ys)) :
    Calls Tryz.prog 39 #[.slice A n c, .slice B m d] w (RetQ (.bool (decide (xs = ys))) w) := by
  unfold maxLen at hc hd
  have HX := hide hx
  have HY := hide hy
  have HR := hide hr
  have HS := hide hs
  clear hx hy hr hs
  by_cases hnm : n = m
  · subst hnm
    have hb : ((n : Int) != n) = false := by simp
    go_enter Tryz.func39, Tryz.ntmps39
    go_wp2
    go_loopw [13] (fun i wr => ∃ k nq : Nat, k ≤ n ∧ i = .int .i64 k ∧ wr = w.drewN nq ∧ Hid (xs.take k = ys.take k)) (fun i _ => n - (intOf i).toNat)
    case atStart => exact ⟨0, 0, by omega, rfl, rfl, hide rfl⟩
    case round =>
      obtain ⟨k, nq, hk, rfl, rfl, HT⟩ := hrel
      by_cases hlt : k < n
      · have h1 : k < xs.length := by rw [HX.out]; exact hlt
        have h2 : k < ys.length := by rw [HY.out]; exact hlt
        obtain ⟨ad, rfl, _, hcell⟩ := HR.out.byte h1
        obtain ⟨bd, rfl, _, hcell2⟩ := HS.out.byte h2
        have HE := hide (fun he => take_succ_eq h1 h2 HT.out he)
        have HN := hide (show xs.getD k 0 ≠ ys.getD k 0 → xs ≠ ys from fun h e => h (by rw [e]))
        clear h1 h2
        generalize xs.getD k 0 = x at hcell HE HN
        generalize ys.getD k 0 = y at hcell2 HE HN
        by_cases he : x = y
        · subst he
          have HE' := hide (HE.out rfl)
          clear HE
          have hb2 : ((x.toNat : Int) != x.toNat) = false := by simp
          go_wp2
          go_quiet (fail)
          go_wp2
          go_round
          case rel => exact ⟨k + 1, _, by omega, by go_num, rfl, HE'⟩
          case measure => simp [intOf]; omega
        · have hb2 : ((x.toNat : Int) != y.toNat) = true := by
            simp
            intro h
            exact he (UInt8.toNat_inj.1 (by omega))
          go_wp2
          go_quiet (fail)
          go_wp2
          go_ret
          exact ⟨by simp [HN.out he], _, World.drewN_drewN _ _ _⟩
      · have HF := hide (show xs = ys by
          have h := HT.out
          rwa [List.take_of_length_le (by rw [HX.out]; omega), List.take_of_length_le (by rw [HY.out]; omega)] at h)
        go_wp2
        go_ret
        exact ⟨by simp [HF.out], _, rfl⟩
  · have hb : ((n : Int) != m) = true := by simp; omega
    have HF := hide (show xs ≠ ys from fun e => hnm (by rw [← HX.out, ← HY.out, e]))
    go_enter Tryz.func39, Tryz.ntmps39
    go_wp2
    go_ret
    exact ⟨by simp [HF.out], 0, rfl⟩
end Go.Proofs.YtnjcncidlhllmaaGreat
namespace Go.Proofs.YtnjcncidlhllmaaGreat
set_option linter.unusedVariables false
set_option linter.unusedSimpArgs false
open Go.RowKit

theorem fitV {bs : List UInt8} (h : rdOk bs) : atV (bV bs).1 (lV bs).1 (nV bs) = (aV bs).1.length := by
  rcases getZ_cases ((restV bs).drop (lV bs).2.1) (sV bs : Nat) with h1 | h1
  · exact absurd h.2.2.2.1 h1.1
  · have h2 := h1.2.2.1
    have e : (aV bs).1.length = sV bs := by unfold aV; omega
    rw [e]
    rfl
theorem aV_in (bs : List UInt8) : InI (aV bs).1 := by
  rcases getZ_cases ((restV bs).drop (lV bs).2.1) (sV bs : Nat) with h1 | h1
  · unfold aV
    rw [h1.2.1]
    intro x hx
    cases hx
  · exact h1.2.2.2.1
theorem read_iff (bs : List UInt8) : (rdOk bs ∧ keptV (rdV bs) = bs) ↔ ∃ rows, FormV bs rows := by
  rw [← open_iff (rdV_in (aV_in bs))]
  constructor
  · rintro ⟨h1, h2⟩
    rw [keptV, if_pos (rdV_ok h1)] at h2
    exact ⟨h1, h2⟩
  · rintro ⟨h1, h2⟩
    refine ⟨h1, ?_⟩
    rw [keptV, if_pos (rdV_ok h1)]
    exact h2
/-- a column in memory of the call's own. -/
structure ColO (w : World) (base G : Nat) (bits : List UInt8) (lens all : List Int) (n : Nat) : Prop where
  own : ∃ v1 v2, w.cell? ⟨G, 0, none⟩ = some v1 ∧ w.cell? ⟨G, 1, none⟩ = some v2 ∧ Own w base 3 1 v1 n (iz .i64 (endsV bits lens n)) ∧ Own w base 2 1 v2 all.length (iz .i64 all)
  fit : atV bits lens n = all.length
  low : base ≤ G
theorem ColO.m {w : World} {base G n : Nat} {bits : List UInt8} {lens all : List Int} (h : ColO w base G bits lens all n) : ColM w w.heap.size G bits lens all n := by
  obtain ⟨v1, v2, h1, h2, o1, o2⟩ := h.own
  obtain ⟨A1, c1, rfl, x1, x2, _, x3, _⟩ := o1.form
  obtain ⟨A2, c2, rfl, y1, y2, _, y3, _⟩ := o2.form
  exact ⟨⟨A1, c1, A2, c2, h1, h2, x1, x2, y1, y2, x3, y3⟩, h.fit⟩
theorem ColO.fr {S : Nat → Prop} {w w' : World} {base G n : Nat} {bits : List UInt8} {lens all : List Int} (h : ColO w base G bits lens all n) (f : Fr S w w') (hS : ∀ k, base ≤ k → ¬ S k) : ColO w' base G bits lens all n := by
  obtain ⟨v1, v2, h1, h2, o1, o2⟩ := h.own
  exact ⟨⟨v1, v2, f.cell h1 (hS _ h.low), f.cell h2 (hS _ h.low), o1.fr f (fun k hk => hS k (o1.lt k hk).1), o2.fr f (fun k hk => hS k (o2.lt k hk).1)⟩, h.fit, h.low⟩
theorem ColO.fr0 {w w' : World} {base G n : Nat} {bits : List UInt8} {lens all : List Int} (h : ColO w base G bits lens all n) (f : Fr No w w') : ColO w' base G bits lens all n := h.fr f (fun _ _ h => h)
theorem ColM.at {w : World} {B G n : Nat} {bits : List UInt8} {lens all : List Int} (h : ColM w B G bits lens all n) {B' : Nat} (hB : B ≤ B') : ColM w B' G bits lens all n := by
  obtain ⟨A1, c1, A2, c2, h1, h2, h3, h4, h5, h6, h7, h8⟩ := h.cell
  exact ⟨⟨A1, c1, A2, c2, h1, h2, h3, h4, h5, h6, h7.more hB, h8.more hB⟩, h.fit⟩
/-- what is answered: a column, or that the bytes are none. -/
def OpenQ (w : World) (bs : List UInt8) (en : Ending) (w' : World) : Prop := Fr No w w' ∧ (((¬ ∃ rows, FormV bs rows) ∧ en = .returned (.tuple #[.pointer none, .int .i64 20])) ∨ (∃ rows, FormV bs rows ∧ ∃ G bits lens all, en = .returned (.tuple #[.pointer (some ⟨G, 0, none⟩), .int .i64 0]) ∧ ColO w' w.heap.size G bits lens all rows.length ∧ rowsV bits lens all rows.length = rows))
set_option maxRecDepth 100000 in
set_option maxHeartbeats 1000000 in
theorem openNumbers_any (A : Option Addr) (m c B : Nat) (bs : List UInt8) (w : World) (hl : bs.length = m) (hn : m ≤ c) (hc : c ≤ maxLen) (hb : m ≤ 140737488355328) (hB : B ≤ w.heap.size) (hr : Rd w B A (by8 bs)) :
    Calls Tryz.prog 10 #[.slice A m c] w (OpenQ w bs) := by
  have HC := hide (read_any A m c B bs w hl hn hc hb hB hr)
  have HR := hide hr
  have HL := hide hl
  have hc' := hc
  unfold maxLen at hc
  clear hr hl
  go_enter Tryz.func10, Tryz.ntmps10
  go_wp2_with (fail)
  refine HC.out.mono ?_
  rintro en w1 ⟨hf, hcase⟩
  have HF1 := hide hf
  by_cases hok : rdOk bs
  · obtain ⟨v1, v2, rfl, o1, o2⟩ : ∃ v1 v2, en = .returned (.tuple #[ColV v1 v2, .bool true]) ∧ Own w1 w.heap.size 3 1 v1 (nV bs) (iz .i64 (endsV (bV bs).1 (lV bs).1 (nV bs))) ∧ Own w1 w.heap.size 2 1 v2 (aV bs).1.length (iz .i64 (aV bs).1) := by
      rcases hcase with ⟨_, h⟩ | ⟨h, _⟩
      · exact h
      · exact absurd hok h
    unfold ColV
    obtain ⟨A1, c1, rfl, x1, x2, _⟩ := o1.form
    obtain ⟨A2, c2, rfl, y1, y2, _⟩ := o2.form
    have hfit := fitV hok
    have hn16 := nV_le bs
    have hrl := rdV_len bs
    have HAI := hide (rdV_in (aV_in bs))
    have HRd : Hid (rowsV (bV bs).1 (lV bs).1 (aV bs).1 (nV bs) = rdV bs) := hide rfl
    have HIff := hide (read_iff bs)
    have HOk := hide hok
    obtain ⟨n, hn⟩ : ∃ x, x = nV bs := ⟨_, rfl⟩
    obtain ⟨al, hal⟩ : ∃ x, x = (aV bs).1.length := ⟨_, rfl⟩
    obtain ⟨bits, hbits⟩ : ∃ x, x = (bV bs).1 := ⟨_, rfl⟩
    obtain ⟨lens, hlens⟩ : ∃ x, x = (lV bs).1 := ⟨_, rfl⟩
    obtain ⟨all, hall⟩ : ∃ x, x = (aV bs).1 := ⟨_, rfl⟩
    obtain ⟨rs, hrs⟩ : ∃ x, x = rdV bs := ⟨_, rfl⟩
    rw [← hn, ← hbits, ← hlens] at o1 hfit
    rw [← hal] at o2 y1 hfit ⊢
    rw [← hall] at o2 hal
    rw [← hn] at x1 hn16 hrl
    rw [← hn, ← hbits, ← hlens, ← hall, ← hrs] at HRd
    rw [← hrs] at hrl HAI HIff
    have HO1 := hide o1
    have HO2 := hide o2
    have HAl := hide hal
    have HFit := hide hfit
    have HRl := hide hrl
    have HRs := hide hrs
    unfold maxLen at x2 y2
    rw [← hn]
    clear hcase hok o1 o2 hal hbits hlens hall hrs hn hfit hrl hf HC
    go_wp2_with (fail)
    obtain ⟨w2, hw2⟩ : ∃ x, x = w1.alloc (.cells #[.slice A1 n c1, .slice A2 al c2] 67) := ⟨_, rfl⟩
    obtain ⟨G, hG⟩ : ∃ x, x = w1.heap.size := ⟨_, rfl⟩
    have hf12 : Fr No w1 w2 := by rw [hw2]; exact (Fr.refl No w1).alloc _
    have hblk : w2.heap[G]? = some (.cells #[.slice A1 n c1, .slice A2 al c2] 67 (0, 0)) := by rw [hw2, hG]; exact heap_alloc_new w1 _
    have hz2 : w2.heap.size = G + 1 := by rw [hw2, hG]; simp
    rw [← hw2, ← hG]
    have hcol : ColO w2 w.heap.size G bits lens all n := ⟨⟨_, _, cell_of_row _ _ 0 _ _ _ hblk, cell_of_row _ _ 1 _ _ _ hblk, HO1.out.fr0 hf12, by rw [← HAl.out]; exact HO2.out.fr0 hf12⟩, by rw [HFit.out]; exact HAl.out, by rw [hG]; exact HF1.out.size⟩
    have HF2 := hide (HF1.out.tr hf12)
    have HCol := hide hcol
    have HRows := hide (rows_any hcol.m hn16 (Nat.le_refl _))
    clear hw2 hG hf12 hblk hz2 hcol
    refine HRows.out.mono ?_
    rintro en w3 ⟨A3, c3, rfl, x3, x4, hisl, hf⟩
    have HF3 := hide (HF2.out.tr hf)
    have HCol3 := hide (HCol.out.fr0 hf)
    rw [HRd.out] at hisl
    have HNu := hide (numbers_any A3 n c3 w3.heap.size rs w3 HRl.out HAI.out x3 x4 (Nat.le_refl _) hisl)
    unfold maxLen at x4
    clear hf hisl HRows HCol HF2
    go_wp2_with (fail)
    refine HNu.out.mono ?_
    rintro en w4 ⟨v5, rfl, hob, hf⟩
    obtain ⟨ks, hks⟩ : ∃ x, x = keptV rs := ⟨_, rfl⟩
    obtain ⟨m5, hm5⟩ : ∃ x, x = ks.length := ⟨_, rfl⟩
    rw [← hks, ← hm5] at hob
    rw [← hks] at HIff
    obtain ⟨A5, c5, rfl, x5, x6, _⟩ := hob.form
    have HF4 := hide (HF3.out.tr hf)
    have HCol4 := hide (HCol3.out.fr0 hf)
    have HEq := hide (sleq_any A5 A m5 c5 m c w4.heap.size B ks bs w4 hm5.symm HL.out x5 x6 hn hc' hob.rd (HR.out.fr0 HF4.out))
    unfold maxLen at x6
    clear hf hob HNu hks hm5 HF3 HCol3
    go_wp2_with (fail)
    refine HEq.out.mono ?_
    rintro en w5 ⟨rfl, nq, hw5⟩
    have hf5 : Fr No w4 w5 := by rw [hw5]; exact (Fr.refl No w4).drewN nq
    have HF5 := hide (HF4.out.tr hf5)
    have HCol5 := hide (HCol4.out.fr0 hf5)
    clear hw5 hf5 HEq HF4 HCol4
    by_cases he : ks = bs
    · have d0 : decide (ks = bs) = true := decide_eq_true he
      have HE := hide he
      rw [d0]
      clear he d0
      obtain ⟨v1, v2, hv1, hv2, q1, q2⟩ := HCol5.out.own
      obtain ⟨B1, d1, rfl, _⟩ := q1.form
      obtain ⟨B2, d2, rfl, _⟩ := q2.form
      rw [← HAl.out] at hv2
      have HQ1 := hide q1
      have HQ2 := hide q2
      clear q1 q2
      go_wp2
      go_ret2
      have hfa : Fr No w5 (w5.alloc (.cells #[.slice B1 n d1, .slice B2 al d2] 73)) := (Fr.refl No w5).alloc _
      have hblk := heap_alloc_new w5 (.cells #[.slice B1 n d1, .slice B2 al d2] 73)
      refine ⟨HF5.out.tr hfa, .inr ⟨rs, ?_, w5.heap.size, bits, lens, all, rfl, ?_, ?_⟩⟩
      · obtain ⟨rows, f⟩ := HIff.out.1 ⟨HOk.out, HE.out⟩
        have e : rs = rows := by rw [HRs.out]; exact f.rd
        rw [e]
        exact f
      · rw [HRl.out]
        exact ⟨⟨_, _, cell_of_row _ _ 0 _ _ _ hblk, cell_of_row _ _ 1 _ _ _ hblk, HQ1.out.fr0 hfa, by have h := HQ2.out.fr0 hfa; rw [← HAl.out] at h ⊢; exact h⟩, by rw [HFit.out]; exact HAl.out, HF5.out.size⟩
      · rw [HRl.out]
        exact HRd.out
    · have d0 : decide (ks = bs) = false := decide_eq_false he
      have HE := hide he
      rw [d0]
      clear he d0
      go_wp2
      go_ret2
      exact ⟨HF5.out, .inl ⟨fun h => HE.out (HIff.out.2 h).2, rfl⟩⟩
  · obtain ⟨A1, n1, c1, A2, n2, c2, rfl⟩ : ∃ A1 n1 c1 A2 n2 c2, en = .returned (.tuple #[ColV (.slice A1 n1 c1) (.slice A2 n2 c2), .bool false]) := by
      rcases hcase with ⟨h, _⟩ | ⟨_, h⟩
      · exact absurd h hok
      · exact h
    unfold ColV
    have HOk := hide hok
    have HIff := hide (read_iff bs)
    clear hok hcase hf
    go_wp2
    go_ret2
    exact ⟨HF1.out.alloc _, .inl ⟨fun h => HOk.out (HIff.out.2 h).1, rfl⟩⟩
end Go.Proofs.YtnjcncidlhllmaaGreat
namespace Go.Proofs.YtnjcncidlhllmaaGreat
set_option linter.unusedVariables false
set_option linter.unusedSimpArgs false
open Go.RowKit

set_option maxRecDepth 100000 in
set_option maxHeartbeats 800000 in
theorem kbytes_any (A B : Option Addr) (n c m d b1 b2 : Nat) (xs ys : List UInt8) (w : World) (hx : xs.length = n) (hy : ys.length = m) (hn : n ≤ c) (hc : c ≤ maxLen) (hm : m ≤ d) (hd : d ≤ maxLen) (hr : Rd w b1 A (by8 xs)) (hs : Rd w b2 B (by8 ys)) :
    Calls Tryz.prog 23 #[.slice A n c, .slice B m d] w (RetQ (.bool (decide (xs = ys))) w) := by
  unfold maxLen at hc hd
  have HX := hide hx
  have HY := hide hy
  have HR := hide hr
  have HS := hide hs
  clear hx hy hr hs
  by_cases hnm : n = m
  · subst hnm
    have hb : ((n : Int) != n) = false := by simp
    go_enter Tryz.func23, Tryz.ntmps23
    go_wp2
    go_loopw [5] (fun i wr => ∃ k nq : Nat, k ≤ n ∧ i = .int .i64 k ∧ wr = w.drewN nq ∧ Hid (xs.take k = ys.take k)) (fun i _ => n - (intOf i).toNat)
    case atStart => exact ⟨0, 0, by omega, rfl, rfl, hide rfl⟩
    case round =>
      obtain ⟨k, nq, hk, rfl, rfl, HT⟩ := hrel
      by_cases hlt : k < n
      · have h1 : k < xs.length := by rw [HX.out]; exact hlt
        have h2 : k < ys.length := by rw [HY.out]; exact hlt
        obtain ⟨ad, rfl, _, hcell⟩ := HR.out.byte h1
        obtain ⟨bd, rfl, _, hcell2⟩ := HS.out.byte h2
        have HE := hide (fun he => take_succ_eq h1 h2 HT.out he)
        have HN := hide (show xs.getD k 0 ≠ ys.getD k 0 → xs ≠ ys from fun h e => h (by rw [e]))
        clear h1 h2
        generalize xs.getD k 0 = x at hcell HE HN
        generalize ys.getD k 0 = y at hcell2 HE HN
        by_cases he : x = y
        · subst he
          have HE' := hide (HE.out rfl)
          clear HE
          have hb2 : ((x.toNat : Int) != x.toNat) = false := by simp
          go_wp2
          go_quiet (fail)
          go_wp2
          go_round
          case rel => exact ⟨k + 1, _, by omega, by go_num, rfl, HE'⟩
          case measure => simp [intOf]; omega
        · have hb2 : ((x.toNat : Int) != y.toNat) = true := by
            simp
            intro h
            exact he (UInt8.toNat_inj.1 (by omega))
          go_wp2
          go_quiet (fail)
          go_wp2
          go_ret
          exact ⟨by simp [HN.out he], _, World.drewN_drewN _ _ _⟩
      · have HF := hide (show xs = ys by
          have h := HT.out
          rwa [List.take_of_length_le (by rw [HX.out]; omega), List.take_of_length_le (by rw [HY.out]; omega)] at h)
        go_wp2
        go_ret
        exact ⟨by simp [HF.out], _, rfl⟩
  · have hb : ((n : Int) != m) = true := by simp; omega
    have HF := hide (show xs ≠ ys from fun e => hnm (by rw [← HX.out, ← HY.out, e]))
    go_enter Tryz.func23, Tryz.ntmps23
    go_wp2
    go_ret
    exact ⟨by simp [HF.out], 0, rfl⟩

end Go.Proofs.YtnjcncidlhllmaaGreat
namespace Go.Proofs.YtnjcncidlhllmaaGreat
set_option linter.unusedVariables false
set_option linter.unusedSimpArgs false
open Go.RowKit

theorem wp_named {P : Program} {s : Code} {Q : Exit → Act → World → Prop} {a : Act} {w : World} (h : ∀ K : Act → World → Prop, (∀ a' w', Q .normal a' w' → K a' w') → s.wp P (Exit.then K Q) a w) : s.wp P Q a w := by
  refine wp_mono (h (Q .normal) (fun _ _ h => h)) ?_
  intro e a' w' hq
  cases e <;> exact hq
theorem wp_act {P : Program} {s : Code} {Q : Exit → Act → World → Prop} {a : Act} {w : World} (h : ∀ a', a' = a → s.wp P Q a' w) : s.wp P Q a w := h a rfl
/-- a question, answered. -/
theorem said (p : Prop) : ∃ b : Bool, (b = true ↔ p) := by
  by_cases h : p
  · exact ⟨true, by simp [h]⟩
  · exact ⟨false, by simp [h]⟩
end Go.Proofs.YtnjcncidlhllmaaGreat
namespace Go.Proofs.YtnjcncidlhllmaaGreat
set_option linter.unusedVariables false
set_option linter.unusedSimpArgs false
open Go.ChangeShapes Go.WideShapes Go.ChangeAt Go.RowKit

theorem bulk_one {H : Type} (d : DataW H) : 1 ≤ Rows.uptoBulk d := by
  cases d with
  | lit l => cases l <;> simp [Rows.uptoBulk]
  | _ => simp [Rows.uptoBulk]
theorem bulk_length {H : Type} (l : List (DataW H)) : l.length ≤ Rows.uptoBulkAll l := by
  induction l with
  | nil => simp
  | cons x r ih =>
    have := bulk_one x
    simp only [Rows.uptoBulkAll, List.length_cons]
    omega
theorem bulk_mem {H : Type} {d : DataW H} {l : List (DataW H)} (h : d ∈ l) : Rows.uptoBulk d ≤ Rows.uptoBulkAll l := by
  induction l with
  | nil => cases h
  | cons x r ih =>
    simp only [Rows.uptoBulkAll]
    rcases List.mem_cons.1 h with rfl | h
    · omega
    · have := ih h
      omega
theorem bulk_slice {H : Type} (elems spare : List (DataW H)) : elems.length + spare.length ≤ Rows.uptoBulk (.slice elems spare) := by
  have h1 := bulk_length elems
  have h2 := bulk_length spare
  simp only [Rows.uptoBulk]
  omega
/-- how many elements a slice that came in has. -/
theorem bulk_ints {H : Type} {enc : TypeId × Value → H} {W : World} {a : Option Addr} {len cap : Nat} {d : DataW H} {p : List MemPlace} {t e : TypeId} {k : IntKind}
    (ht : Tryz.prog.underlying t = some (.slice e)) (he : Tryz.prog.underlying e = some (.int k)) (hc : Tryz.prog.cellsOf e = 1) (h : DataW.Trod enc Tryz.prog W 0 (fun _ => true) true t (.slice a len cap) d p) : cap ≤ Rows.uptoBulk d := by
  obtain ⟨fuel, hf⟩ := h
  rcases open_ints ht he hc hf with ⟨hcs, _⟩ | ⟨x, l, c, zs, hcs, _, hl, hm, hz, hd, hcell, hwz⟩
  · simp [Value.cells] at hcs
    obtain ⟨rfl, rfl, rfl⟩ := hcs
    omega
  · simp [Value.cells] at hcs
    obtain ⟨rfl, rfl, rfl⟩ := hcs
    injection hd with hd _
    have hz : zs.length = cap := by simpa using hz
    rw [hd]
    have := bulk_slice (H := H) (lits k (zs.take len)) (lits k (zs.drop len))
    have hlen : (lits (H := H) k (zs.take len)).length + (lits (H := H) k (zs.drop len)).length = cap := by simp [lits]; omega
    omega
end Go.Proofs.YtnjcncidlhllmaaGreat
namespace Go.Proofs.YtnjcncidlhllmaaGreat
set_option linter.unusedVariables false
set_option linter.unusedSimpArgs false
open Go.RowKit

theorem foldl_push (bs : List UInt8) (s : ByteArray) : (bs.map fun b => ((b.toNat : Nat) : Int)).foldl (fun r n => r.push (UInt8.ofNat n.toNat)) s = ⟨s.data ++ bs.toArray⟩ := by
  induction bs generalizing s with
  | nil => obtain ⟨d⟩ := s; simp
  | cons b r ih =>
    obtain ⟨d⟩ := s
    rw [List.map_cons, List.foldl_cons, ih]
    show ByteArray.mk ((d.push (UInt8.ofNat ((b.toNat : Int).toNat))) ++ r.toArray) = ByteArray.mk (d ++ (b :: r).toArray)
    congr 1
    rw [Int.toNat_natCast, UInt8.ofNat_toNat]
    apply Array.ext'
    simp

/-- bytes that are read, as a text. -/
theorem conv_rd (w : World) {B : Nat} (A : Option Addr) (l c : Nat) (bs : List UInt8) (hl : bs.length = l) (hr : Rd w B A (by8 bs)) :
    (convert 25 9 (.slice A l c)).run Tryz.prog w = .ok (.string ⟨bs.toArray⟩) w := by
  rw [run_convert_bytes_string w 25 9 5 A l c Tryz.underlying25 Tryz.underlying5 Tryz.underlying9]
  cases A with
  | none =>
    have h0 := hr.len0
    subst h0
    subst hl
    simp [Conv.bytesToString]
    rfl
  | some a =>
    have h := run_loadCells_list (P := Tryz.prog) (w := w) a (by8 bs) (fun j v hv => by
      obtain ⟨ad, e, _, hc⟩ := hr j v hv
      injection e with e
      subst e
      exact hc)
    rw [by8_length, hl] at h
    have e : (bs.map fun b => ((b.toNat : Nat) : Int)).map (Value.int .u8) = by8 bs := by simp [by8, Function.comp_def]
    rw [← e] at h
    rw [run_bytesToString w a l c _ h, foldl_push]
    congr 2
    simp

def textR (bs : List UInt8) (most : Int) : Option (List UInt8 × Nat) :=
  match dec 0 0 bs with
  | none => none
  | some (u, k) => if most < 0 ∨ most < (u : Int) ∨ bs.length - k < u then none else some ((bs.drop k).take u, k + u)

def textV : Option (List UInt8 × Nat) → Value
  | none => .tuple #[.string ⟨#[]⟩, .int .i64 (-1)]
  | some (s, k) => .tuple #[.string ⟨s.toArray⟩, .int .i64 k]

theorem textR_none {bs : List UInt8} {most : Int} (hd : dec 0 0 bs = none) : textR bs most = none := by unfold textR; rw [hd]

theorem textR_no {bs : List UInt8} {most : Int} {u k : Nat} (hd : dec 0 0 bs = some (u, k)) (h : most < 0 ∨ most < (u : Int) ∨ bs.length - k < u) : textR bs most = none := by
  unfold textR; rw [hd]; exact if_pos h

theorem textR_ok {bs : List UInt8} {most : Int} {u k : Nat} (hd : dec 0 0 bs = some (u, k)) (h : ¬ (most < 0 ∨ most < (u : Int) ∨ bs.length - k < u)) : textR bs most = some ((bs.drop k).take u, k + u) := by
  unfold textR; rw [hd]; exact if_neg h

def textS (bs : List UInt8) (a : Nat) (e most : Int) : List UInt8 × Nat × Int :=
  if e = 0 then (match textR (bs.drop a) most with | none => ([], a, 20) | some (s, k) => (s, a + k, 0)) else ([], a, e)

theorem textR_le {bs : List UInt8} {most : Int} {s : List UInt8} {k : Nat} (h : textR bs most = some (s, k)) : k ≤ bs.length := by
  cases hd : dec 0 0 bs with
  | none => rw [textR_none hd] at h; cases h
  | some x =>
    obtain ⟨u, j⟩ := x
    have hk := dec_le _ _ _ _ _ hd
    by_cases hb : most < 0 ∨ most < (u : Int) ∨ bs.length - j < u
    · rw [textR_no hd hb] at h; cases h
    · rw [textR_ok hd hb] at h
      injection h with h
      injection h with _ h
      omega

end Go.Proofs.YtnjcncidlhllmaaGreat
namespace Go.Proofs.YtnjcncidlhllmaaGreat
set_option linter.unusedVariables false
set_option linter.unusedSimpArgs false
open Go.RowKit

set_option maxRecDepth 100000 in
set_option maxHeartbeats 800000 in
theorem text1_ok (r : Value) (b1 b2 m : Nat) (A : Option Addr) (n c B : Nat) (bs : List UInt8) (u k : Nat) (W : World) (hl : bs.length = n) (hn : n ≤ c) (hc : c ≤ 9223372036854775807) (hm2 : (m : Int) ≤ 9223372036854775807) (hr : Rd W B A (by8 bs)) (c1 : W.cell? ⟨b1, 0, none⟩ = some r) (c2 : W.cell? ⟨b2, 0, none⟩ = some (.int .i64 m)) (hd : dec 0 0 bs = some (u, k))
    (HN0 : Calls Tryz.prog 80 #[r, .slice A n c] W (Ret (.tuple #[.int .u64 u, .int .i64 k]) W)) (hkn : k ≤ n) (hum : ¬ m < u) (hul : ¬ n - k < u) (hu : u < 18446744073709551616) :
    Calls Tryz.prog 82 #[.slice A n c, .pointer (some ⟨b1, 0, none⟩), .pointer (some ⟨b2, 0, none⟩)] W (Ret (textV (textR bs m)) W) := by
  have HN := hide HN0
  have HT := hide (textR_ok (most := m) hd (by rw [hl]; omega))
  have hcv := conv_rd W (B := B) (if c = k then A else A.map (·.add k)) u (c - k) ((bs.drop k).take u) (by simp; omega) (by
    rw [by8_take, by8_drop]
    exact (hr.cut (by rw [by8_length, hl]; exact hn)).tk u)
  generalize (bs.drop k).take u = s at HT hcv
  have hku : k + u ≤ n := by omega
  have hu2 : u ≤ m := by omega
  have HC := hide hcv
  clear hr hl hd hul HN0 hcv hum hu
  go_enter Tryz.func82, Tryz.ntmps82
  go_wp2_with (go_at_call 80; refine HN.out.mono ?_; rintro en w' ⟨rfl, rfl⟩)
  · rename_i h
    have hcv := HC.out
    rw [if_pos h, h, Nat.sub_self] at hcv
    rw [hcv]
    clear hcv HC
    go_wp2
    go_ret2
    exact ⟨by rw [HT.out]; simp [textV], rfl⟩
  · rename_i h
    have hcv := HC.out
    rw [if_neg h] at hcv
    rw [hcv]
    clear hcv HC
    go_wp2
    go_ret2
    exact ⟨by rw [HT.out]; simp [textV], rfl⟩

set_option maxRecDepth 100000 in
set_option maxHeartbeats 800000 in
theorem text1_any (r : Value) (b1 b2 : Nat) (most : Int) (A : Option Addr) (n c B : Nat) (bs : List UInt8) (W : World) (hl : bs.length = n) (hn : n ≤ c) (hc : c ≤ maxLen) (hm1 : -9223372036854775808 ≤ most) (hm2 : most ≤ 9223372036854775807) (hr : Rd W B A (by8 bs)) (c1 : W.cell? ⟨b1, 0, none⟩ = some r) (c2 : W.cell? ⟨b2, 0, none⟩ = some (.int .i64 most)) :
    Calls Tryz.prog 82 #[.slice A n c, .pointer (some ⟨b1, 0, none⟩), .pointer (some ⟨b2, 0, none⟩)] W (Ret (textV (textR bs most)) W) := by
  have HN := hide (number_any r A n c B bs W hl hn hc hr)
  unfold maxLen at hc
  cases hd : dec 0 0 bs with
  | none =>
    have HT := hide (textR_none (most := most) hd)
    rw [hd] at HN
    simp only [numV] at HN
    clear hr hl hd
    go_enter Tryz.func82, Tryz.ntmps82
    go_wp2_with (go_at_call 80; refine HN.out.mono ?_; rintro en w' ⟨rfl, rfl⟩)
    go_ret2
    exact ⟨by rw [HT.out]; rfl, rfl⟩
  | some x =>
    obtain ⟨u, k⟩ := x
    rw [hd] at HN
    simp only [numV] at HN
    have hk := dec_le _ _ _ _ _ hd
    have hu := dec_lt _ 0 0 u k (by decide) hd
    rw [hl] at hk
    obtain ⟨hk0, hkn⟩ := hk
    have hkn : k ≤ n := by omega
    have hku0 := hkn
    by_cases hneg : most < 0
    · have HT := hide (textR_no (most := most) hd (.inl hneg))
      clear hr hl hd
      go_enter Tryz.func82, Tryz.ntmps82
      go_wp2_with (go_at_call 80; refine HN.out.mono ?_; rintro en w' ⟨rfl, rfl⟩)
      go_ret2
      exact ⟨by rw [HT.out]; rfl, rfl⟩
    · obtain ⟨m, rfl⟩ := Int.eq_ofNat_of_zero_le (a := most) (by omega)
      clear hm1 hneg
      by_cases hum : m < u
      · have HT := hide (textR_no (most := m) hd (.inr (.inl (by omega))))
        clear hr hl hd
        go_enter Tryz.func82, Tryz.ntmps82
        go_wp2_with (go_at_call 80; refine HN.out.mono ?_; rintro en w' ⟨rfl, rfl⟩)
        go_ret2
        exact ⟨by rw [HT.out]; rfl, rfl⟩
      · by_cases hul : n - k < u
        · have HT := hide (textR_no (most := m) hd (.inr (.inr (by rw [hl]; exact hul))))
          clear hr hl hd
          go_enter Tryz.func82, Tryz.ntmps82
          go_wp2_with (go_at_call 80; refine HN.out.mono ?_; rintro en w' ⟨rfl, rfl⟩)
          go_ret2
          exact ⟨by rw [HT.out]; rfl, rfl⟩
        · exact text1_ok r b1 b2 m A n c B bs u k W hl hn hc hm2 hr c1 c2 hd HN.out hku0 hum hul hu

theorem text_cut {w : World} {B : Nat} {A : Option Addr} {bs : List UInt8} {c at_ b1 b2 : Nat} {most : Int} (r : Value) (hm1 : -9223372036854775808 ≤ most) (hm2 : most ≤ 9223372036854775807) (hr : Rd w B A (by8 bs)) (h1 : bs.length ≤ c) (h2 : c ≤ maxLen) (h3 : at_ ≤ bs.length) (c1 : w.cell? ⟨b1, 0, none⟩ = some r) (c2 : w.cell? ⟨b2, 0, none⟩ = some (.int .i64 most)) (nq : Nat) :
    Calls Tryz.prog 82 #[.slice (if c = at_ then A else A.map (·.add at_)) (bs.length - at_) (c - at_), .pointer (some ⟨b1, 0, none⟩), .pointer (some ⟨b2, 0, none⟩)] (w.drewN nq) fun e w' => e = .returned (textV (textR (bs.drop at_) most)) ∧ w' = w.drewN nq :=
  (text1_any r b1 b2 most _ _ _ B (bs.drop at_) (w.drewN nq) (by simp) (by omega) (by omega) hm1 hm2 (by rw [by8_drop]; exact Rd.cut (w := w) hr (by rw [by8_length]; exact h1)) c1 c2).mono fun _ _ ⟨a, b⟩ => ⟨a, b.symm⟩

section
variable (g : Nat) (bs : List UInt8) (at_ : Nat) (w : World) (b1 b2 : Nat) (most : Int) (hm1 : -9223372036854775808 ≤ most) (hm2 : most ≤ 9223372036854775807) (c1 : w.cell? ⟨b1, 0, none⟩ = some (.pointer (some ⟨g, 0, none⟩))) (c2 : w.cell? ⟨b2, 0, none⟩ = some (.int .i64 most))
include hm1 hm2 c1 c2
set_option maxRecDepth 100000 in
set_option maxHeartbeats 400000 in
theorem takeS_bad (h : RD w g bs at_ 0) (hd : textR (bs.drop at_) most = none) :
    Calls Tryz.prog 81 #[.pointer (some ⟨g, 0, none⟩), .func (.func 82) #[] #[.pointer (some ⟨b1, 0, none⟩), .pointer (some ⟨b2, 0, none⟩)]] w (RDRet (.string ⟨#[]⟩) w g bs at_ 20) := by
  obtain ⟨A, c, ⟨d0, d1, d2⟩, hf, h1, h2, h3, h4, hr⟩ := h.parts
  have HN := hide (text_cut (.pointer (some ⟨g, 0, none⟩)) hm1 hm2 hr h1 h2 h3 c1 c2)
  rw [hd] at HN
  simp only [textV] at HN
  have H := hide h
  clear h hr hd c1 c2
  go_enter Tryz.func81, Tryz.ntmps81
  go_wp2_with (fail)
  go_quiet ((go_at_call 82; exact Calls.quiet_of_same (HN.out _)))
  go_wp2
  all_goals
    go_ret
    exact ⟨rfl, (H.out.drewN _).set2 20, ((Fr.refl _ _).drewN _).put _ _⟩

set_option maxRecDepth 100000 in
set_option maxHeartbeats 400000 in
theorem takeS_ok (s : List UInt8) (k : Nat) (h : RD w g bs at_ 0) (hd : textR (bs.drop at_) most = some (s, k)) (hk1 : at_ + k ≤ bs.length) :
    Calls Tryz.prog 81 #[.pointer (some ⟨g, 0, none⟩), .func (.func 82) #[] #[.pointer (some ⟨b1, 0, none⟩), .pointer (some ⟨b2, 0, none⟩)]] w (RDRet (.string ⟨s.toArray⟩) w g bs (at_ + k) 0) := by
  obtain ⟨A, c, ⟨d0, d1, d2⟩, hf, h1, h2, h3, h4, hr⟩ := h.parts
  have HN := hide (text_cut (.pointer (some ⟨g, 0, none⟩)) hm1 hm2 hr h1 h2 h3 c1 c2)
  rw [hd] at HN
  simp only [textV] at HN
  have H := hide h
  clear h hr hd c1 c2
  go_enter Tryz.func81, Tryz.ntmps81
  go_wp2_with (fail)
  go_quiet ((go_at_call 82; exact Calls.quiet_of_same (HN.out _)))
  go_wp2
  all_goals
    go_ret
    exact ⟨rfl, (H.out.drewN _).set1 _ hk1, ((Fr.refl _ _).drewN _).put _ _⟩
end

set_option maxRecDepth 100000 in
set_option maxHeartbeats 400000 in
theorem takeS_off (g : Nat) (bs : List UInt8) (at_ : Nat) (e : Int) (w : World) (f : Value) (h : RD w g bs at_ e) (he : e ≠ 0) :
    Calls Tryz.prog 81 #[.pointer (some ⟨g, 0, none⟩), f] w (RDRet (.string ⟨#[]⟩) w g bs at_ e) := by
  obtain ⟨A, c, ⟨c0, c1, c2⟩, hf, h1, h2, h3, h4, hr⟩ := h.parts
  have hb : (e != 0) = true := by simpa using he
  have H := hide h
  clear h hr he
  go_enter Tryz.func81, Tryz.ntmps81
  go_wp2_with (fail)
  go_ret
  exact ⟨rfl, H.out, Fr.refl _ _⟩

set_option maxRecDepth 100000 in
set_option maxHeartbeats 400000 in
theorem takeS_nil (w : World) (f : Value) :
    Calls Tryz.prog 81 #[.pointer none, f] w (Ret (.string ⟨#[]⟩) w) := by
  go_enter Tryz.func81, Tryz.ntmps81
  go_wp2_with (fail)
  go_ret
  exact ⟨rfl, rfl⟩

theorem takeS_all (g : Nat) (bs : List UInt8) (a : Nat) (e : Int) (w : World) (b1 b2 : Nat) (most : Int) (hm1 : -9223372036854775808 ≤ most) (hm2 : most ≤ 9223372036854775807) (c1 : w.cell? ⟨b1, 0, none⟩ = some (.pointer (some ⟨g, 0, none⟩))) (c2 : w.cell? ⟨b2, 0, none⟩ = some (.int .i64 most)) (h : RD w g bs a e) :
    Calls Tryz.prog 81 #[.pointer (some ⟨g, 0, none⟩), .func (.func 82) #[] #[.pointer (some ⟨b1, 0, none⟩), .pointer (some ⟨b2, 0, none⟩)]] w (RDRet (.string ⟨(textS bs a e most).1.toArray⟩) w g bs (textS bs a e most).2.1 (textS bs a e most).2.2) := by
  unfold textS
  by_cases he : e = 0
  · subst he
    rw [if_pos rfl]
    cases hd : textR (bs.drop a) most with
    | none => exact takeS_bad g bs a w b1 b2 most hm1 hm2 c1 c2 h hd
    | some x => exact takeS_ok g bs a w b1 b2 most hm1 hm2 c1 c2 x.1 x.2 h hd (by
        have h1 := textR_le (s := x.1) (k := x.2) hd
        obtain ⟨_, _, _, _, _, h3, _⟩ := h
        simp at h1
        omega)
  · rw [if_neg he]
    exact takeS_off g bs a e w _ h he

set_option maxRecDepth 100000 in
set_option maxHeartbeats 400000 in
theorem text_any (g : Nat) (bs : List UInt8) (a : Nat) (e most : Int) (w : World) (h : RD w g bs a e) (hm1 : -9223372036854775808 ≤ most) (hm2 : most ≤ 9223372036854775807) :
    Calls Tryz.prog 51 #[.pointer (some ⟨g, 0, none⟩), .int .i64 most] w (RDRet (.string ⟨(textS bs a e most).1.toArray⟩) w g bs (textS bs a e most).2.1 (textS bs a e most).2.2) := by
  have H := hide (fun t1 t2 => takeS_all g bs a e _ w.heap.size (w.heap.size + 1) most hm1 hm2 (box1 w (.pointer (some ⟨g, 0, none⟩)) (.int .i64 most) t1 t2) (box2 w (.pointer (some ⟨g, 0, none⟩)) (.int .i64 most) t1 t2) (h.fr0 (((Fr.refl No w).alloc _).alloc _)))
  clear h
  generalize textS bs a e most = x at H
  go_enter Tryz.func51, Tryz.ntmps51
  go_wp2_with (go_at_call 81; refine (H.out _ _).mono ?_; rintro en w' ⟨rfl, hq⟩; have HQ := hide hq; clear hq)
  go_ret
  exact ⟨rfl, HQ.out.1, (((Fr.refl (Is g) w).alloc _).alloc _).ts HQ.out.2⟩

set_option maxRecDepth 100000 in
set_option maxHeartbeats 400000 in
theorem text_nil (most : Int) (w : World) :
    Calls Tryz.prog 51 #[.pointer none, .int .i64 most] w (fun en w' => en = .returned (.string ⟨#[]⟩) ∧ Fr No w w') := by
  go_enter Tryz.func51, Tryz.ntmps51
  go_wp2_with (go_at_call 81; refine (takeS_nil _ _).mono ?_; rintro en w' ⟨rfl, rfl⟩)
  go_ret
  exact ⟨rfl, ((Fr.refl No w).alloc _).alloc _⟩

end Go.Proofs.YtnjcncidlhllmaaGreat
namespace Go.Proofs.YtnjcncidlhllmaaGreat
set_option linter.unusedVariables false
set_option linter.unusedSimpArgs false
open Go.RowKit

abbrev Tx := List UInt8
def sv (t : Tx) : Value := .string ⟨t.toArray⟩
def svs (l : List Tx) : List Value := l.map sv
theorem svs_len (l : List Tx) : (svs l).length = l.length := by simp [svs]
theorem svs_snoc (l : List Tx) (t : Tx) : svs (l ++ [t]) = svs l ++ [sv t] := by simp [svs]
theorem svs_get {l : List Tx} {k : Nat} (h : k < l.length) : (svs l)[k]? = some (sv (l.getD k [])) := by
  simp [svs, List.getElem?_eq_getElem h]
theorem sv_inj {s t : Tx} (h : sv s = sv t) : s = t := by
  unfold sv at h
  injection h with h
  injection h with h
  have := congrArg Array.toList h
  simpa using this
theorem tx_list (t : Tx) : (ByteArray.mk t.toArray).toList = t := by rw [ByteArray.toList_eq]
theorem tx_size (t : Tx) : (ByteArray.mk t.toArray).size = t.length := by simp [ByteArray.size]
theorem tx_lt (s t : Tx) : Op.bytesLess (ByteArray.mk s.toArray).toList (ByteArray.mk t.toArray).toList = decide (s < t) := by rw [tx_list, tx_list, bytesLess_eq]
theorem tx_eq (s t : Tx) : ((ByteArray.mk s.toArray).toList == (ByteArray.mk t.toArray).toList) = decide (s = t) := by
  rw [tx_list, tx_list]
  by_cases h : s = t <;> simp [h]

theorem tl_irrefl (s : Tx) : ¬ s < s := List.lt_irrefl s
theorem tl_trans {s t u : Tx} (h : s < t) (k : t < u) : s < u := List.lt_trans h k
theorem tl_total (s t : Tx) : s < t ∨ s = t ∨ t < s := by
  by_cases h1 : s < t
  · exact .inl h1
  · by_cases h2 : t < s
    · exact .inr (.inr h2)
    · exact .inr (.inl (List.le_antisymm (List.not_lt.1 h2) (List.not_lt.1 h1)))
theorem tl_nil (s : Tx) : ¬ s < [] := List.not_lt_nil s

theorem take_getD {α : Type} {l : List α} {m : Nat} (d : α) (h : m < l.length) : l.take (m + 1) = l.take m ++ [l.getD m d] := by
  rw [List.take_succ_eq_append_getElem h]
  congr 2
  simp [List.getElem?_eq_getElem h]
theorem getD_mem {l : List Tx} {k : Nat} (h : k < l.length) : l.getD k [] ∈ l := by
  rw [List.getD, List.getElem?_eq_getElem h]
  exact List.getElem_mem _
theorem Tryz.infoS : (Tryz.prog.info? 9).map (fun i => (i.zero, i.size, i.bytes)) = some (some (.string ⟨#[]⟩), 1, 16) := by kernel_rfl
/-- a text of a row that is read. -/
theorem cellStr {w : World} {B : Nat} {A : Option Addr} {l : List Tx} (h : Rd w B A (svs l)) {k : Nat} (hk : k < l.length) :
    ∃ (ad : Addr) (X : ByteArray), A = some ad ∧ ad.block < B ∧ w.cell? (ad.add k) = some (.string X) ∧ X.data.toList = l.getD k [] ∧ X.toList = l.getD k [] ∧ X.size = (l.getD k []).length := by
  obtain ⟨ad, h1, h2, h3⟩ := h k _ (svs_get hk)
  exact ⟨ad, ⟨(l.getD k []).toArray⟩, h1, h2, h3, rfl, tx_list _, tx_size _⟩
end Go.Proofs.YtnjcncidlhllmaaGreat
