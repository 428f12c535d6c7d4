/- Several texts in one: TxC, TxB, TxOP, OffT, TxOW. -/
import Derived.Test.YtnjcncidlhllmaaK13
import Derived.Deep.RegionLaw
namespace Go.Proofs.Ytnjcncidlhllmaa
set_option linter.unusedVariables false
set_option linter.unusedSimpArgs false
open Go.RowKit

theorem Try.infoInT : (Try.prog.info? 3).map (fun i => (i.zero, i.size, i.bytes)) = some (some (.int .i64 0), 1, 8) := by kernel_rfl
structure ColT (w : World) (base G : Nat) (bits : List UInt8) (lens all : List Int) (n : Nat) (ts : List Tx) : Prop where
  col : ColO w base G bits lens all n
  terms : ∃ A c, w.cell? ⟨G, 2, none⟩ = some (.slice A ts.length c) ∧ Own w base 9 1 (.slice A ts.length c) ts.length (svs ts)
theorem ColT.fr {S : Nat → Prop} {w w' : World} {base G n : Nat} {bits : List UInt8} {lens all : List Int} {ts : List Tx} (h : ColT w base G bits lens all n ts) (f : Fr S w w') (hS : ∀ k, base ≤ k → ¬ S k) : ColT w' base G bits lens all n ts := by
  obtain ⟨A, c, h1, h2⟩ := h.terms
  exact ⟨h.col.fr f hS, A, c, f.cell h1 (hS _ h.col.low), h2.fr f (fun k hk => hS k (h2.lt k hk).1)⟩
theorem ColT.fr0 {w w' : World} {base G n : Nat} {bits : List UInt8} {lens all : List Int} {ts : List Tx} (h : ColT w base G bits lens all n ts) (f : Fr No w w') : ColT w' base G bits lens all n ts := h.fr f (fun _ _ h => h)
section
variable {w : World} {base G n : Nat} {bits : List UInt8} {lens all : List Int} {ts : List Tx}
set_option maxRecDepth 100000 in
set_option maxHeartbeats 400000 in
theorem txLen_any (h : ColT w base G bits lens all n ts) :
    Calls Try.prog 22 #[.pointer (some ⟨G, 0, none⟩)] w (Ret (.int .i64 (n : Nat)) w) := by
  have HL := hide (colLen_any h.col.m)
  clear h
  go_enter Try.func22, Try.ntmps22
  go_wp2_with (go_at_call 39; refine HL.out.mono ?_; rintro en w' ⟨rfl, rfl⟩)
  go_ret
  exact ⟨rfl, rfl⟩
set_option maxRecDepth 100000 in
set_option maxHeartbeats 400000 in
theorem txTerms_any (h : ColT w base G bits lens all n ts) :
    Calls Try.prog 23 #[.pointer (some ⟨G, 0, none⟩)] w (Ret (.int .i64 (ts.length : Nat)) w) := by
  obtain ⟨A, c, h1, h2⟩ := h.terms
  obtain ⟨q1, q2⟩ := h2.le.2
  unfold maxLen at q2
  clear h h2
  go_enter Try.func23, Try.ntmps23
  go_wp2
  go_ret
  exact ⟨rfl, rfl⟩
set_option maxRecDepth 100000 in
set_option maxHeartbeats 400000 in
theorem term_out (h : ColT w base G bits lens all n ts) (i : Int) (hi : i < 0 ∨ (ts.length : Int) ≤ i) :
    Calls Try.prog 30 #[.pointer (some ⟨G, 0, none⟩), .int .i64 i] w (Ret (.string ⟨#[]⟩) w) := by
  have HT := hide (txTerms_any h)
  clear h
  generalize ts.length = tk at HT hi
  by_cases h0 : i < 0
  · have d0 : decide (i < 0) = true := decide_eq_true h0
    clear hi h0
    go_enter Try.func30, Try.ntmps30
    go_wp2_with (go_at_call 23; refine HT.out.mono ?_; rintro en w' ⟨rfl, rfl⟩)
    go_ret
    exact ⟨rfl, rfl⟩
  · have d0 : decide (i < 0) = false := decide_eq_false h0
    have h1 : (tk : Int) ≤ i := by omega
    have d1 : decide ((tk : Int) ≤ i) = true := decide_eq_true h1
    clear hi h0 h1
    go_enter Try.func30, Try.ntmps30
    go_wp2_with (go_at_call 23; refine HT.out.mono ?_; rintro en w' ⟨rfl, rfl⟩)
    go_ret
    exact ⟨rfl, rfl⟩
set_option maxRecDepth 100000 in
set_option maxHeartbeats 400000 in
theorem term_in (h : ColT w base G bits lens all n ts) {i : Nat} (hi : i < ts.length) :
    Calls Try.prog 30 #[.pointer (some ⟨G, 0, none⟩), .int .i64 (i : Nat)] w (Ret (sv (ts.getD i [])) w) := by
  have HT := hide (txTerms_any h)
  obtain ⟨A, c, h1, h2⟩ := h.terms
  obtain ⟨q1, q2⟩ := h2.le.2
  obtain ⟨ad, hA, _, hcell⟩ := h2.rd i (sv (ts.getD i [])) (svs_get hi)
  subst hA
  unfold sv at hcell ⊢
  generalize (ByteArray.mk (ts.getD i []).toArray) = X at hcell ⊢
  unfold maxLen at q2
  clear h h2
  generalize ts.length = tk at HT hi h1 q1
  go_enter Try.func30, Try.ntmps30
  go_wp2_with (go_at_call 23; refine HT.out.mono ?_; rintro en w' ⟨rfl, rfl⟩)
  go_ret
  exact ⟨rfl, rfl⟩
set_option maxRecDepth 100000 in
set_option maxHeartbeats 400000 in
theorem find_any (h : ColT w base G bits lens all n ts) (hts : ltT ts) (hb : ts.length < 4611686018427387904) (t : Tx) :
    Calls Try.prog 29 #[.pointer (some ⟨G, 0, none⟩), .string ⟨t.toArray⟩] w (fun en w' => en = .returned (.tuple #[.int .i64 (if t ∈ ts then ordT ts t else 0 : Nat), .bool (decide (t ∈ ts))]) ∧ ∃ q, w' = w.drewN q) := by
  obtain ⟨A, c, h1, h2⟩ := h.terms
  obtain ⟨q1, q2⟩ := h2.le.2
  have HS := hide (searchT_any base ts.length c A ts t w h2 hb hts)
  have HOl := hide (ordT_le ts t)
  obtain ⟨tk, htk⟩ : ∃ x, x = ts.length := ⟨_, rfl⟩
  rw [← htk] at HS h1 q1 hb HOl
  obtain ⟨o, ho⟩ : ∃ x, x = ordT ts t := ⟨_, rfl⟩
  rw [← ho] at HS HOl ⊢
  have hob : o ≤ tk := HOl.out
  unfold maxLen at q2
  clear h h2 htk ho
  by_cases hm : t ∈ ts
  · rw [if_pos hm]
    rw [decide_eq_true hm] at HS ⊢
    clear hm
    generalize ByteArray.mk t.toArray = T at HS ⊢
    go_enter Try.func29, Try.ntmps29
    go_wp2_with (go_at_call 48; refine HS.out.mono ?_; rintro en w2 ⟨rfl, nq, hw2⟩; have HW := hide hw2; clear hw2)
    go_ret2
    exact ⟨rfl, nq, HW.out⟩
  · rw [if_neg hm]
    rw [decide_eq_false hm] at HS ⊢
    clear hm
    generalize ByteArray.mk t.toArray = T at HS ⊢
    go_enter Try.func29, Try.ntmps29
    go_wp2_with (go_at_call 48; refine HS.out.mono ?_; rintro en w2 ⟨rfl, nq, hw2⟩; have HW := hide hw2; clear hw2)
    go_ret2
    exact ⟨rfl, nq, HW.out⟩
/-- a row of ints of the call's own. -/
def GivesI (w : World) (xs : List Int) (en : Ending) (w' : World) : Prop := ∃ v, en = .returned v ∧ Own w' w.heap.size 3 1 v xs.length (iz .i64 xs) ∧ Fr No w w'
set_option maxRecDepth 100000 in
set_option maxHeartbeats 400000 in
theorem ords_out (h : ColT w base G bits lens all n ts) (i : Int) (hi : i < 0 ∨ (n : Int) ≤ i) :
    Calls Try.prog 25 #[.pointer (some ⟨G, 0, none⟩), .int .i64 i] w (Ret (.slice none 0 0) w) := by
  have HL := hide (colRow_out h.col.m i hi)
  clear h hi
  go_enter Try.func25, Try.ntmps25
  go_wp2_with (go_at_call 41; refine HL.out.mono ?_; rintro en w' ⟨rfl, rfl⟩)
  go_loopw [5, 16] (fun v i wr => v = .slice none 0 0 ∧ i = .int .i64 0 ∧ wr = w) (fun _ _ _ => 0)
  case atStart => exact ⟨by go_num, by go_num, rfl⟩
  case round =>
    obtain ⟨rfl, rfl, rfl⟩ := hrel
    go_wp2
    go_ret
    exact ⟨rfl, rfl⟩
set_option maxRecDepth 100000 in
set_option maxHeartbeats 1000000 in
theorem ords_in (h : ColT w base G bits lens all n ts) {i : Nat} (hi : i < n) (hn : n ≤ 16384) (hl : (rowV bits lens all i).length ≤ 64) :
    Calls Try.prog 25 #[.pointer (some ⟨G, 0, none⟩), .int .i64 (i : Nat)] w (GivesI w (rowV bits lens all i)) := by
  obtain ⟨i2, hi2, hz2, hsz2, hby2⟩ := info_parts Try.infoInT
  have HL := hide (colRow_in h.col.m hi hn)
  obtain ⟨l, hl'⟩ : ∃ x, x = rowV bits lens all i := ⟨_, rfl⟩
  rw [← hl'] at HL hl ⊢
  obtain ⟨li, hli⟩ : ∃ x, x = l.length := ⟨_, rfl⟩
  rw [← hli] at hl
  have HLi := hide hli
  clear h hi hl' hli
  go_enter Try.func25, Try.ntmps25
  go_wp2_with (go_at_call 41; refine HL.out.mono ?_; rintro en w1 ⟨A, c, rfl, q1, q2, q3, nq, hw⟩; rw [← HLi.out] at q1 ⊢; have HF1 : Hid (Fr No w w1) := hide (by rw [hw]; exact (Fr.refl No w).drewN nq); have HR := hide q3; unfold maxLen at q2; clear hw q3)
  go_loopw [5, 16] (fun v i wr => ∃ (k : Nat), k ≤ li ∧ i = .int .i64 (k : Nat) ∧ Hid (Fr No w1 wr) ∧ Hid (Own wr w1.heap.size 3 1 v k (iz .i64 (l.take k)))) (fun _ i _ => li - (intOf i).toNat)
  case atStart => exact ⟨0, by omega, by go_num, hide (Fr.refl _ _), hide (by rw [List.take_zero]; exact Own.nil _ _ _ _)⟩
  case round =>
    obtain ⟨k, hk, rfl, HF, HO⟩ := hrel
    by_cases hlt : k < li
    · have hk1 : k < l.length := by rw [← HLi.out]; exact hlt
      obtain ⟨ad, hA, _, hcell⟩ := (HR.out.fr0 (HF1.out.tr HF.out)).intAt hk1
      subst hA
      have htk : l.take (k + 1) = l.take k ++ [l.getD k 0] := (take_one hk1).1
      obtain ⟨x, hx⟩ : ∃ x, x = l.getD k 0 := ⟨_, rfl⟩
      rw [← hx] at hcell htk
      have HTk := hide htk
      have HOa := hide (HO.out.fr0 ((Fr.refl No wr).alloc (.cells #[.int .i64 x] 3)))
      have HS := hide (Src.one (P := Try.prog) wr (e := 3) Try.underlying48 (.int .i64 x) rfl)
      have hz3 : w1.heap.size ≤ (wr.alloc (.cells #[.int .i64 x] 3)).heap.size := (HF.out.alloc _).size
      have b1 : (k + 1) * 8 ≤ 140737488355328 := by omega
      have b2 : k + 1 ≤ maxLen := by unfold maxLen; omega
      clear hk1 htk hx
      go_wp2_with (at_builtin; refine wpList_append_gen _ rfl (.tmp 20) (.tmp 22) 48 48 rfl w1.heap.size 3 i2 (.int .i64 0) 1 8 Try.underlying48 hi2 hz2 hsz2 hby2 rfl u5 k _ rfl HOa.out _ 1 [.int .i64 x] rfl HS.out b1 b2 hz3 ?_; intro v6 w6 hown hfr hat; have HO6 := hide hown; have HF6 := hide ((HF.out.alloc _).own hfr (fun g hg => .inl (HOa.out.lt g hg).1)); clear hown hfr hat)
      go_roundw
      case rel => exact ⟨k + 1, by omega, by go_num, HF6, hide (by rw [HTk.out, iz_append]; exact HO6.out)⟩
      case measure => simp [intOf]; omega
    · obtain rfl : k = li := by omega
      have hall : l.take k = l := List.take_of_length_le (by rw [HLi.out]; exact Nat.le_refl _)
      rw [hall] at HO
      obtain ⟨A4, c4, rfl, q3, q4, -⟩ := HO.out.form
      unfold maxLen at q4
      clear hall
      go_wp2
      go_ret
      exact ⟨_, rfl, by rw [← HLi.out]; exact HO.out.lower HF1.out.size, HF1.out.tr HF.out⟩
/-- the texts of a row of numbers. -/
def pickT (ts : List Tx) (l : List Int) : List Tx := l.map (fun k => ts.getD k.toNat [])
set_option maxRecDepth 100000 in
set_option maxHeartbeats 400000 in
theorem txRow_out (h : ColT w base G bits lens all n ts) (i : Int) (hi : i < 0 ∨ (n : Int) ≤ i) :
    Calls Try.prog 27 #[.pointer (some ⟨G, 0, none⟩), .int .i64 i] w (Ret (.slice none 0 0) w) := by
  have HL := hide (ords_out h i hi)
  clear h hi
  go_enter Try.func27, Try.ntmps27
  go_wp2_with (go_at_call 25; refine HL.out.mono ?_; rintro en w' ⟨rfl, rfl⟩)
  go_loopw [5, 12] (fun v i wr => v = .slice none 0 0 ∧ i = .int .i64 0 ∧ wr = w) (fun _ _ _ => 0)
  case atStart => exact ⟨by go_num, by go_num, rfl⟩
  case round =>
    obtain ⟨rfl, rfl, rfl⟩ := hrel
    go_wp2
    go_ret
    exact ⟨rfl, rfl⟩
set_option maxRecDepth 100000 in
set_option maxHeartbeats 1000000 in
theorem txRow_in (h : ColT w base G bits lens all n ts) {i : Nat} (hi : i < n) (hn : n ≤ 16384) (hl : (rowV bits lens all i).length ≤ 64) (hr : ∀ x ∈ rowV bits lens all i, 0 ≤ x ∧ x < (ts.length : Int)) :
    Calls Try.prog 27 #[.pointer (some ⟨G, 0, none⟩), .int .i64 (i : Nat)] w (GivesT w (pickT ts (rowV bits lens all i))) := by
  obtain ⟨i2, hi2, hz2, hsz2, hby2⟩ := info_parts Try.infoS
  have HL := hide (ords_in h hi hn hl)
  obtain ⟨l, hl'⟩ : ∃ x, x = rowV bits lens all i := ⟨_, rfl⟩
  rw [← hl'] at HL hl hr ⊢
  obtain ⟨li, hli⟩ : ∃ x, x = l.length := ⟨_, rfl⟩
  rw [← hli] at hl
  have HLi := hide hli
  obtain ⟨At, ct, h1, h2⟩ := h.terms
  obtain ⟨y1, y2⟩ := h2.le.2
  have HTs := hide h2.rd
  obtain ⟨tk, htk⟩ : ∃ x, x = ts.length := ⟨_, rfl⟩
  rw [← htk] at h1 y1 hr
  have HTk := hide htk
  have HRg := hide hr
  have HT1 := hide h1
  have HPl : Hid ((pickT ts l).length = li) := hide (by rw [pickT, List.length_map, hli])
  unfold maxLen at y2
  clear h hi hl' hli h1 h2 htk hr
  go_enter Try.func27, Try.ntmps27
  go_wp2_with (go_at_call 25; refine HL.out.mono ?_; rintro en w1 ⟨v, rfl, hown, hf⟩; rw [← HLi.out] at hown; obtain ⟨A, c, rfl, q1, q2, -⟩ := hown.form; have HF1 := hide hf; have HO1 := hide hown; unfold maxLen at q2; clear hf hown)
  go_loopw [5, 12] (fun v i wr => ∃ (k : Nat), k ≤ li ∧ i = .int .i64 (k : Nat) ∧ Hid (Fr No w1 wr) ∧ Hid (Own wr w1.heap.size 9 1 v k (svs (pickT ts (l.take k))))) (fun _ i _ => li - (intOf i).toNat)
  case atStart => exact ⟨0, by omega, by go_num, hide (Fr.refl _ _), hide (by rw [List.take_zero]; exact Own.nil _ _ _ _)⟩
  case round =>
    obtain ⟨k, hk, rfl, HF, HO⟩ := hrel
    by_cases hlt : k < li
    · have hk1 : k < l.length := by rw [← HLi.out]; exact hlt
      obtain ⟨ad, hA, _, hcell⟩ := (HO1.out.fr0 HF.out).rd.intAt hk1
      subst hA
      have htk : l.take (k + 1) = l.take k ++ [l.getD k 0] := (take_one hk1).1
      have hrg := HRg.out (l.getD k 0) (by rw [List.getD, List.getElem?_eq_getElem hk1]; exact List.getElem_mem hk1)
      obtain ⟨x, hx⟩ : ∃ x, x = l.getD k 0 := ⟨_, rfl⟩
      rw [← hx] at hcell htk hrg
      obtain ⟨xn, rfl⟩ : ∃ m : Nat, x = (m : Int) := ⟨x.toNat, by omega⟩
      have hxn : xn < tk := by omega
      have hfw := HF1.out.tr HF.out
      obtain ⟨adt, hAt, _, hct0⟩ := HTs.out xn (sv (ts.getD xn [])) (svs_get (by rw [← HTk.out]; exact hxn))
      subst hAt
      have hct := hfw.cell hct0 (fun h => h)
      have hcG := hfw.cell HT1.out (fun h => h)
      have hpk : pickT ts (l.take (k + 1)) = pickT ts (l.take k) ++ [ts.getD xn []] := by rw [htk]; simp [pickT]
      have HPk := hide hpk
      unfold sv at hct
      obtain ⟨t, ht⟩ : ∃ t, t = ts.getD xn [] := ⟨_, rfl⟩
      rw [← ht] at hct HPk
      obtain ⟨X, hX⟩ : ∃ X : ByteArray, X = ⟨t.toArray⟩ := ⟨_, rfl⟩
      rw [← hX] at hct
      have HX : Hid (Value.string X = sv t) := hide (by rw [hX]; rfl)
      have HOa := hide (HO.out.fr0 ((Fr.refl No wr).alloc (.cells #[.string X] 9)))
      have HS := hide (Src.one (P := Try.prog) wr (e := 9) Try.underlying45 (.string X) rfl)
      have hz3 : w1.heap.size ≤ (wr.alloc (.cells #[.string X] 9)).heap.size := (HF.out.alloc _).size
      have b1 : (k + 1) * 16 ≤ 140737488355328 := by omega
      have b2 : k + 1 ≤ maxLen := by unfold maxLen; omega
      clear hk1 htk hx hrg hfw hct0 hpk ht hX
      go_wp2_with (at_builtin; refine wpList_append_gen _ rfl (.tmp 16) (.tmp 24) 45 45 rfl w1.heap.size 9 i2 (.string ⟨#[]⟩) 1 16 Try.underlying45 hi2 hz2 hsz2 hby2 rfl u5 k _ rfl HOa.out _ 1 [.string X] rfl HS.out b1 b2 hz3 ?_; intro v6 w6 hown hfr hat; have HO6 := hide hown; have HF6 := hide ((HF.out.alloc _).own hfr (fun g hg => .inl (HOa.out.lt g hg).1)); clear hown hfr hat)
      go_roundw
      case rel => exact ⟨k + 1, by omega, by go_num, HF6, hide (by rw [HPk.out, svs_snoc, ← HX.out]; exact HO6.out)⟩
      case measure => simp [intOf]; omega
    · obtain rfl : k = li := by omega
      have hall : l.take k = l := List.take_of_length_le (by rw [HLi.out]; exact Nat.le_refl _)
      rw [hall] at HO
      obtain ⟨A4, c4, rfl, q3, q4, -⟩ := HO.out.form
      unfold maxLen at q4
      clear hall
      go_wp2
      go_ret
      exact ⟨_, rfl, by rw [HPl.out]; exact HO.out.lower HF1.out.size, HF1.out.tr HF.out⟩
end
end Go.Proofs.Ytnjcncidlhllmaa
namespace Go.Proofs.Ytnjcncidlhllmaa
set_option linter.unusedVariables false
set_option linter.unusedSimpArgs false
open Go.RowKit

def badK (tk : Nat) (x : Int) : Prop := x < 0 ∨ (tk : Int) ≤ x
instance (tk : Nat) (x : Int) : Decidable (badK tk x) := inferInstanceAs (Decidable (_ ∨ _))
section
variable {w : World} {P G tk ct : Nat} {At : Option Addr}
set_option maxRecDepth 100000 in
set_option maxHeartbeats 400000 in
theorem bad1_any (h1 : w.cell? ⟨P, 0, none⟩ = some (.pointer (some ⟨G, 0, none⟩))) (h2 : w.cell? ⟨G, 2, none⟩ = some (.slice At tk ct)) (hb : tk ≤ 4611686018427387903) (x : Int) (hx : -9223372036854775808 ≤ x ∧ x ≤ 9223372036854775807) :
    Calls Try.prog 59 #[.int .i64 x, .pointer (some ⟨P, 0, none⟩)] w (Ret (.bool (decide (badK tk x))) w) := by
  by_cases h0 : x < 0
  · have hd : decide (badK tk x) = true := decide_eq_true (.inl h0)
    have d0 : decide (x < 0) = true := decide_eq_true h0
    rw [hd]
    clear h0 hd
    go_enter Try.func59, Try.ntmps59
    go_wp2
    go_ret
    exact ⟨rfl, rfl⟩
  · have hd : decide (badK tk x) = decide ((tk : Int) ≤ x) := decide_eq_decide.2 ⟨fun h => h.elim (fun h => absurd h h0) id, .inr⟩
    have d0 : decide (x < 0) = false := decide_eq_false h0
    rw [hd]
    clear h0 hd
    go_enter Try.func59, Try.ntmps59
    go_wp2
    go_ret
    exact ⟨rfl, rfl⟩
/-- the first bad number's place, or -1. -/
def IxPost (w : World) (tk : Nat) (l : List Int) (en : Ending) (w' : World) : Prop := w' = w ∧ ((en = .returned (.int .i64 (-1)) ∧ ∀ x ∈ l, ¬ badK tk x) ∨ (∃ k : Nat, k ≤ 1048576 ∧ en = .returned (.int .i64 (k : Nat)) ∧ ∃ x ∈ l, badK tk x))
set_option maxRecDepth 100000 in
set_option maxHeartbeats 1000000 in
theorem indexBad_any (h1 : w.cell? ⟨P, 0, none⟩ = some (.pointer (some ⟨G, 0, none⟩))) (h2 : w.cell? ⟨G, 2, none⟩ = some (.slice At tk ct)) (hb : tk ≤ 4611686018427387903) (A : Option Addr) (n c B : Nat) (l : List Int) (hl : l.length = n) (hi : InI l) (hn : n ≤ c) (hc : c ≤ maxLen) (hn2 : n ≤ 1048576) (hr : Rd w B A (iz .i64 l)) :
    Calls Try.prog 80 #[.slice A n c, .func (.func 59) #[] #[.pointer (some ⟨P, 0, none⟩)]] w (IxPost w tk l) := by
  have HB := hide (fun x hx => bad1_any h1 h2 hb x hx)
  have HL := hide hl
  have HR := hide hr
  have HI := hide hi
  unfold maxLen at hc
  clear h1 h2 hl hr hi
  go_enter Try.func80, Try.ntmps80
  go_wp2
  go_loopw [8] (fun i wr => ∃ (k : Nat), k ≤ n ∧ i = .int .i64 (k : Nat) ∧ wr = w ∧ Hid (∀ x ∈ l.take k, ¬ badK tk x)) (fun i _ => n - (intOf i).toNat)
  case atStart => exact ⟨0, by omega, by go_num, rfl, hide (fun x hx => by rw [List.take_zero] at hx; cases hx)⟩
  case round =>
    obtain ⟨k, hk, rfl, rfl, HS⟩ := hrel
    by_cases hlt : k < n
    · have hk1 : k < l.length := by rw [HL.out]; exact hlt
      obtain ⟨ad, hA, _, hcell⟩ := HR.out.intAt hk1
      subst hA
      have htk : l.take (k + 1) = l.take k ++ [l.getD k 0] := (take_one hk1).1
      have hmem : l.getD k 0 ∈ l := by rw [List.getD, List.getElem?_eq_getElem hk1]; exact List.getElem_mem hk1
      have hin := HI.out _ hmem
      obtain ⟨x, hx⟩ : ∃ x, x = l.getD k 0 := ⟨_, rfl⟩
      rw [← hx] at hcell htk hmem hin
      have HBx := hide (HB.out x hin)
      have HTk := hide htk
      have HM := hide hmem
      clear hk1 hx htk hmem
      by_cases hbad : badK tk x
      · rw [decide_eq_true hbad] at HBx
        have HBd := hide hbad
        clear hbad
        go_wp2_with (go_at_call 59; refine HBx.out.mono ?_; rintro en w' ⟨rfl, rfl⟩)
        go_ret
        exact ⟨rfl, .inr ⟨k, by omega, rfl, x, HM.out, HBd.out⟩⟩
      · rw [decide_eq_false hbad] at HBx
        have HS' : Hid (∀ y ∈ l.take (k + 1), ¬ badK tk y) := hide (fun y hy => by
          rw [HTk.out] at hy
          rcases List.mem_append.1 hy with hy | hy
          · exact HS.out y hy
          · rw [List.mem_singleton.1 hy]; exact hbad)
        clear hbad
        go_wp2_with (go_at_call 59; refine HBx.out.mono ?_; rintro en w' ⟨rfl, rfl⟩)
        go_roundw
        case rel => exact ⟨k + 1, by omega, by go_num, trivial, HS'⟩
        case measure => simp [intOf]; omega
    · obtain rfl : k = n := by omega
      have htk : l.take k = l := List.take_of_length_le (by rw [HL.out]; exact Nat.le_refl _)
      rw [htk] at HS
      clear htk
      go_wp2
      go_ret
      exact ⟨rfl, .inl ⟨rfl, HS.out⟩⟩
set_option maxRecDepth 100000 in
set_option maxHeartbeats 400000 in
theorem containsBad_any (h1 : w.cell? ⟨P, 0, none⟩ = some (.pointer (some ⟨G, 0, none⟩))) (h2 : w.cell? ⟨G, 2, none⟩ = some (.slice At tk ct)) (hb : tk ≤ 4611686018427387903) (A : Option Addr) (n c B : Nat) (l : List Int) (hl : l.length = n) (hi : InI l) (hn : n ≤ c) (hc : c ≤ maxLen) (hn2 : n ≤ 1048576) (hr : Rd w B A (iz .i64 l)) :
    Calls Try.prog 58 #[.slice A n c, .func (.func 59) #[] #[.pointer (some ⟨P, 0, none⟩)]] w (fun en w' => w' = w ∧ ((en = .returned (.bool false) ∧ ∀ x ∈ l, ¬ badK tk x) ∨ (en = .returned (.bool true) ∧ ∃ x ∈ l, badK tk x))) := by
  have HX := hide (indexBad_any h1 h2 hb A n c B l hl hi hn hc hn2 hr)
  unfold maxLen at hc
  clear h1 h2 hl hi hr
  go_enter Try.func58, Try.ntmps58
  go_wp2_with (fail)
  refine HX.out.mono ?_
  rintro en w' ⟨rfl, ⟨rfl, hall⟩ | ⟨k, hk, rfl, hex⟩⟩
  · have HA := hide hall
    clear hall HX
    go_wp2
    go_ret
    exact ⟨rfl, .inl ⟨rfl, HA.out⟩⟩
  · have HA := hide hex
    clear hex HX
    go_wp2
    go_ret
    exact ⟨rfl, .inr ⟨by simp, HA.out⟩⟩
end
end Go.Proofs.Ytnjcncidlhllmaa
namespace Go.Proofs.Ytnjcncidlhllmaa
set_option linter.unusedVariables false
set_option linter.unusedSimpArgs false
open Go.RowKit

theorem text_has {bs s : List UInt8} {a : Nat} {most : Int} (hm : (s.length : Int) ≤ most) (hs : s.length < 18446744073709551616) (h : enc s.length ++ s <+: bs.drop a) : textS bs a 0 most = (s, a + (enc s.length ++ s).length, 0) := by
  obtain ⟨r, hr⟩ := h
  have hd : dec 0 0 (bs.drop a) = some (s.length, (enc s.length).length) := by rw [← hr, List.append_assoc]; exact dec_enc _ hs _
  have hl : (bs.drop a).length = (enc s.length).length + s.length + r.length := by rw [← hr, List.length_append, List.length_append]
  have ht : textR (bs.drop a) most = some (s, (enc s.length).length + s.length) := by
    rw [textR_ok hd (by omega)]
    congr 2
    rw [← hr, List.append_assoc, List.drop_left, List.take_left]
  unfold textS
  rw [if_pos rfl, ht]
  simp
theorem text_of {bs : List UInt8} {a : Nat} {e most : Int} (h : (textS bs a e most).2.2 = 0) : e = 0 ∧ ((textS bs a e most).1.length : Int) ≤ most ∧ (textS bs a e most).1.length < 18446744073709551616 ∧ enc (textS bs a e most).1.length ++ (textS bs a e most).1 <+: bs.drop a ∧ (textS bs a e most).2.1 = a + (enc (textS bs a e most).1.length ++ (textS bs a e most).1).length := by
  by_cases he : e = 0
  · subst he
    unfold textS at h ⊢
    rw [if_pos rfl] at h ⊢
    cases hd : dec 0 0 (bs.drop a) with
    | none => rw [textR_none hd] at h; cases h
    | some x =>
      obtain ⟨u, k⟩ := x
      by_cases hm : most < 0 ∨ most < (u : Int) ∨ (bs.drop a).length - k < u
      · rw [textR_no hd hm] at h; cases h
      · rw [textR_ok hd hm]
        obtain ⟨h1, h2⟩ := dec_has hd
        have h3 := dec_le _ _ _ _ _ hd
        have hl : (((bs.drop a).drop k).take u).length = u := by rw [List.length_take, List.length_drop]; omega
        refine ⟨rfl, ?_, ?_, ?_, ?_⟩
        · show (((((bs.drop a).drop k).take u).length : Nat) : Int) ≤ most
          rw [hl]; omega
        · show (((bs.drop a).drop k).take u).length < _
          rw [hl]; exact dec_lt _ 0 0 u k (by simp) hd
        · show enc (((bs.drop a).drop k).take u).length ++ ((bs.drop a).drop k).take u <+: bs.drop a
          rw [hl, pre_app, ← h2, ← List.drop_drop]
          exact ⟨h1, List.take_prefix _ _⟩
        · show a + (k + u) = _
          rw [List.length_append, hl, ← h2]
  · exfalso
    unfold textS at h
    rw [if_neg he] at h
    exact he h

/-- n texts off bytes, as long as none fails. -/
def txsS (bs : List UInt8) : Nat → Nat → Int → List Tx × Nat × Int
  | 0, a, e => ([], a, e)
  | n + 1, a, e => if e = 0 then ((textS bs a e 256).1 :: (txsS bs n (textS bs a e 256).2.1 (textS bs a e 256).2.2).1, (txsS bs n (textS bs a e 256).2.1 (textS bs a e 256).2.2).2) else ([], a, e)
theorem txs_has {bs : List UInt8} : ∀ (l : List Tx) (a : Nat), (∀ t ∈ l, t.length ≤ 256) → txts l <+: bs.drop a → txsS bs l.length a 0 = (l, a + (txts l).length, 0)
  | [], a, _, _ => by simp [txsS, txts]
  | t :: r, a, h, hp => by
    have e : txts (t :: r) = txt t ++ txts r := by simp [txts]
    rw [e] at hp ⊢
    have ht := h t List.mem_cons_self
    obtain ⟨z, hz⟩ := hp
    have h1 : textS bs a 0 256 = (t, a + (txt t).length, 0) := text_has (by omega) (by omega) ⟨txts r ++ z, by rw [← hz, txt]; simp only [List.append_assoc]⟩
    have h2 := txs_has r (a + (txt t).length) (fun s hs => h s (List.mem_cons_of_mem _ hs)) ⟨z, by rw [← List.drop_drop, ← hz, List.append_assoc, List.drop_left]⟩
    rw [List.length_cons, txsS, if_pos rfl, h1, h2, List.length_append, Nat.add_assoc]
def hT (bs : List UInt8) : Nat × Nat × Int := sizeS bs 0 0 (bs.length : Nat)
def tT (bs : List UInt8) : List Tx × Nat × Int := txsS bs (hT bs).1 (hT bs).2.1 (hT bs).2.2
def restT (bs : List UInt8) : List UInt8 := bs.drop (tT bs).2.1
def rdT (bs : List UInt8) : RwT := (rdV (restT bs)).map (pickT (tT bs).1)
def accT (bs : List UInt8) : Prop := (tT bs).2.2 = 0 ∧ rdOk (restT bs) ∧ (∀ x ∈ (aV (restT bs)).1, ¬ badK (tT bs).1.length x) ∧ keptT (rdT bs) = bs
theorem rowsV_flat (bits : List UInt8) (lens all : List Int) : ∀ n, (rowsV bits lens all n).flatten = all.take (atV bits lens n)
  | 0 => by simp [rowsV, atV]
  | n + 1 => by
    have hm := atV_mono bits lens (i := n) (j := n + 1) (by omega)
    rw [rowsV_succ, List.flatten_append, rowsV_flat bits lens all n, List.flatten_singleton, rowV]
    obtain ⟨d, hd⟩ : ∃ d, atV bits lens (n + 1) = atV bits lens n + d := ⟨_, (Nat.add_sub_cancel' hm).symm⟩
    rw [hd, Nat.add_sub_cancel_left, List.take_add]
theorem all_flat {bs : List UInt8} (h : rdOk bs) : (rdV bs).flatten = (aV bs).1 := by
  rw [rdV, rowsV_flat, fitV h, List.take_length]
theorem pickT_ords {ts l : List Tx} (hts : ltT ts) (h : ∀ t ∈ l, t ∈ ts) : pickT ts (ordsV ts l) = setT l := by
  unfold pickT ordsV
  rw [List.map_map]
  conv => rhs; rw [← List.map_id (setT l)]
  refine List.map_congr_left fun t ht => ?_
  simp only [Function.comp, Int.toNat_natCast, id]
  exact (ordT_mem hts (h t ((setT_mem l t).1 ht))).2
theorem termsV_sets2 (rows : RwT) : termsV (rows.map setT) = termsV rows := termsV_sets rows
theorem setT_setT (l : List Tx) : setT (setT l) = setT l := setT_of_lt (setT_lt l)
theorem ordsR_sets (rows : RwT) : ordsR (rows.map setT) = ordsR rows := by
  unfold ordsR
  rw [termsV_sets2, List.map_map]
  refine List.map_congr_left fun l _ => ?_
  simp only [Function.comp, ordsV, setT_setT]
theorem okT_sets {rows : RwT} (h : okT rows) : okT (rows.map setT) := by
  refine ⟨⟨by rw [List.length_map]; exact h.1.1, fun l hl => ?_⟩, fun l hl t ht => ?_⟩
  · obtain ⟨m, hm, rfl⟩ := List.mem_map.1 hl
    exact Nat.le_trans (setT_le m) (h.1.2 m hm)
  · obtain ⟨m, hm, rfl⟩ := List.mem_map.1 hl
    exact h.2 m hm t ((setT_mem m t).1 ht)
theorem textsB_sets (rows : RwT) : textsB (rows.map setT) = textsB rows := by rw [textsB, textsB, termsV_sets2, ordsR_sets]
theorem txts_ge : ∀ l : List Tx, l.length ≤ (txts l).length
  | [] => by simp
  | t :: r => by
    have h1 := txts_ge r
    have h2 := (enc_len t.length).1
    have e : txts (t :: r) = txt t ++ txts r := by simp [txts]
    rw [e, List.length_append, List.length_cons, txt, List.length_append]
    omega
/-- what is kept is read. -/
theorem texts_parts {rows : RwT} (h : okT rows) : tT (textsB rows) = (termsV rows, (enc (termsV rows).length ++ txts (termsV rows)).length, 0) ∧ restT (textsB rows) = formV (ordsR rows) := by
  have hl := termsV_le h.1
  have h256 : ∀ t ∈ termsV rows, t.length ≤ 256 := fun t ht => by
    obtain ⟨l, hl, ht⟩ := (termsV_mem rows t).1 ht
    exact h.2 l hl t ht
  have hge := txts_ge (termsV rows)
  have e1 : hT (textsB rows) = ((termsV rows).length, 0 + (enc (termsV rows).length).length, 0) := size_has (by omega) (by rw [textsB]; simp only [List.length_append]; omega) ⟨txts (termsV rows) ++ formV (ordsR rows), by simp [textsB]⟩
  have e2 : tT (textsB rows) = (termsV rows, 0 + (enc (termsV rows).length).length + (txts (termsV rows)).length, 0) := by
    unfold tT
    rw [e1]
    exact txs_has (termsV rows) _ h256 ⟨formV (ordsR rows), by rw [Nat.zero_add, show textsB rows = enc (termsV rows).length ++ (txts (termsV rows) ++ formV (ordsR rows)) by simp [textsB], List.drop_left]⟩
  refine ⟨by rw [e2, List.length_append, Nat.zero_add], ?_⟩
  unfold restT
  rw [e2]
  dsimp only
  rw [textsB, show 0 + (enc (termsV rows).length).length + (txts (termsV rows)).length = (enc (termsV rows).length ++ txts (termsV rows)).length by rw [List.length_append]; omega, List.drop_left]
theorem rd_texts {rows : RwT} (h : okT rows) : accT (textsB rows) ∧ rdT (textsB rows) = rows.map setT ∧ rdV (restT (textsB rows)) = ordsR rows := by
  obtain ⟨e1, e2⟩ := texts_parts h
  obtain ⟨r1, r2⟩ := rd_form (ordsR_ok h.1) (ordsR_in h.1)
  have hr : rdT (textsB rows) = rows.map setT := by
    unfold rdT
    rw [e1, e2, r2, ordsR, List.map_map]
    refine List.map_congr_left fun l hl => ?_
    exact pickT_ords (termsV_lt rows) (fun t ht => (termsV_mem rows t).2 ⟨l, hl, ht⟩)
  refine ⟨⟨by rw [e1], by rw [e2]; exact r1, fun x hx => ?_, ?_⟩, hr, by rw [e2, r2]⟩
  · rw [e2] at hx
    rw [← all_flat r1, r2] at hx
    obtain ⟨l, hl, hx⟩ := List.mem_flatten.1 hx
    obtain ⟨m, hm, rfl⟩ := List.mem_map.1 hl
    obtain ⟨t, ht, rfl⟩ := List.mem_map.1 hx
    have := (ordT_mem (termsV_lt rows) ((termsV_mem rows t).2 ⟨m, hm, (setT_mem m t).1 ht⟩)).1
    rw [e1]
    unfold badK
    dsimp only
    omega
  · rw [hr, keptT, if_pos (okT_sets h), textsB_sets]
end Go.Proofs.Ytnjcncidlhllmaa
namespace Go.Proofs.Ytnjcncidlhllmaa
set_option linter.unusedVariables false
set_option linter.unusedSimpArgs false
open Go.RowKit

theorem Own.cellsT {w : World} {base e size n : Nat} {v : Value} {xs : List Value} (h : Own w base e size v n xs) {k : Nat} (hk : v.ownBlock = some k) : base ≤ k ∧ ∃ cs fz, w.heap[k]? = some (.cells cs e fz) := by
  refine ⟨(h.lt k hk).1, ?_⟩
  obtain ⟨_, A, c, rfl, _, _, hA⟩ := h
  rcases hA with ⟨rfl, _⟩ | ⟨g, cur, rfl, _, hh, _⟩
  · cases hk
  · have e : g = k := Option.some.inj hk
    subst e
    exact ⟨_, _, hh⟩
/-- a frame that writes no block of one type. -/
def Off (S : Nat → Prop) (w : World) (t : TypeId) : Prop := ∀ k cs fz, w.heap[k]? = some (.cells cs t fz) → ¬ S k
theorem Own.off {S : Nat → Prop} {w w' : World} {base e size n : Nat} {v : Value} {xs : List Value} (h : Own w base e size v n xs) (f : Fr S w w') (hS : Off S w e) : Own w' base e size v n xs :=
  h.fr f (fun k hk => by
    obtain ⟨_, cs, fz, hh⟩ := h.cellsT hk
    exact hS k cs fz hh)
theorem RD.offT {S : Nat → Prop} {w w' : World} {g : Nat} {bs : List UInt8} {a : Nat} {e : Int} (h : RD w g bs a e) (f : Fr S w w') (h1 : Off S w 99) (h2 : Off S w 5) : RD w' g bs a e := by
  obtain ⟨A, c, hh, q1, q2, q3, q4, ho⟩ := h
  exact ⟨A, c, f.blk hh (h1 _ _ _ hh), q1, q2, q3, q4, ho.off f h2⟩
theorem off_is {w : World} {g : Nat} {cs : Array Value} {t t' : TypeId} {fz : Nat × Nat} (h : w.heap[g]? = some (.cells cs t fz)) (hne : t' ≠ t) : Off (Is g) w t' := by
  intro k cs' fz' hk e
  have e : k = g := e
  subst e
  rw [h] at hk
  injection hk with hk
  injection hk with _ hk _
  exact hne hk.symm
theorem off_own {w : World} {base e size n : Nat} {v : Value} {xs : List Value} (h : Own w base e size v n xs) {t : TypeId} (hne : t ≠ e) : Off (fun k => v.ownBlock = some k) w t := by
  intro k cs fz hk hv
  obtain ⟨_, cs', fz', hh⟩ := h.cellsT hv
  rw [hh] at hk
  injection hk with hk
  injection hk with _ hk _
  exact hne hk.symm


end Go.Proofs.Ytnjcncidlhllmaa
namespace Go.Proofs.Ytnjcncidlhllmaa
set_option linter.unusedVariables false
set_option linter.unusedSimpArgs false
open Go.RowKit

theorem sizeS_leb {bs : List UInt8} : (hT bs).1 ≤ bs.length := by
  have h := sizeS_le (bs := bs) (a := 0) (e := 0) (most := ((bs.length : Nat) : Int)) (by omega)
  unfold hT
  omega
/-- a column of texts under way: at G the struct, at P where it lies. -/
structure TxM (w : World) (base P G : Nat) (vt : Value) (k : Nat) (ts : List Tx) : Prop where
  g : w.heap[G]? = some (.cells #[.slice none 0 0, .slice none 0 0, vt] 77 (0, 0))
  p : w.heap[P]? = some (.cells #[.pointer (some ⟨G, 0, none⟩)] 42 (0, 0))
  t : Own w base 9 1 vt k (svs ts)
theorem TxM.off {S : Nat → Prop} {w w' : World} {base P G k : Nat} {vt : Value} {ts : List Tx} (h : TxM w base P G vt k ts) (f : Fr S w w') (h1 : Off S w 77) (h2 : Off S w 42) (h3 : Off S w 9) : TxM w' base P G vt k ts :=
  ⟨f.blk h.g (h1 _ _ _ h.g), f.blk h.p (h2 _ _ _ h.p), h.t.off f h3⟩
theorem TxM.fr0 {w w' : World} {base P G k : Nat} {vt : Value} {ts : List Tx} (h : TxM w base P G vt k ts) (f : Fr No w w') : TxM w' base P G vt k ts := ⟨f.blk h.g (fun h => h), f.blk h.p (fun h => h), h.t.fr0 f⟩
theorem off_rd {w : World} {g : Nat} {bs : List UInt8} {a : Nat} {e : Int} (h : RD w g bs a e) {t : TypeId} (hne : t ≠ 99) : Off (Is g) w t := by
  obtain ⟨A, c, hh, _⟩ := h
  exact off_is hh hne
theorem TxM.rd {w w' : World} {base P G k g : Nat} {vt : Value} {ts : List Tx} {bs : List UInt8} {a : Nat} {e : Int} (h : TxM w base P G vt k ts) (r : RD w g bs a e) (f : Fr (Is g) w w') : TxM w' base P G vt k ts :=
  h.off f (off_rd r (by decide)) (off_rd r (by decide)) (off_rd r (by decide))
theorem RdPost.uni {w : World} {bs : List UInt8} {en : Ending} {w' : World} (h : RdPost w bs en w') : ∃ A1 n1 c1 A2 n2 c2 b, en = .returned (.tuple #[.agg #[.slice A1 n1 c1, .slice A2 n2 c2], .bool b]) ∧ Fr No w w' ∧
    (b = true → rdOk bs ∧ n1 = nV bs ∧ n2 = (aV bs).1.length ∧ Own w' w.heap.size 3 1 (.slice A1 n1 c1) n1 (iz .i64 (endsV (bV bs).1 (lV bs).1 (nV bs))) ∧ Own w' w.heap.size 2 1 (.slice A2 n2 c2) n2 (iz .i64 (aV bs).1)) ∧ (b = false → ¬ rdOk bs) := by
  obtain ⟨hf, ⟨hok, v1, v2, rfl, o1, o2⟩ | ⟨hno, A1, n1, c1, A2, n2, c2, rfl⟩⟩ := h
  · obtain ⟨A1, c1, rfl, _⟩ := o1.form
    obtain ⟨A2, c2, rfl, _⟩ := o2.form
    exact ⟨A1, _, c1, A2, _, c2, true, rfl, hf, fun _ => ⟨hok, rfl, rfl, o1, o2⟩, fun h => by cases h⟩
  · exact ⟨A1, n1, c1, A2, n2, c2, false, rfl, hf, fun h => (by cases h), fun _ => hno⟩
def OpenTQ (w : World) (bs : List UInt8) (en : Ending) (w' : World) : Prop := Fr No w w' ∧ ((¬ accT bs ∧ en = .returned (.tuple #[.pointer none, .int .i64 20])) ∨ (accT bs ∧ ∃ G bits lens all, en = .returned (.tuple #[.pointer (some ⟨G, 0, none⟩), .int .i64 0]) ∧ ColT w' w.heap.size G bits lens all (nV (restT bs)) (tT bs).1 ∧ rowsV bits lens all (nV (restT bs)) = rdV (restT bs)))
set_option maxRecDepth 100000 in
set_option maxHeartbeats 8000000 in
theorem openTexts_any (A : Option Addr) (m c B : Nat) (bs : List UInt8) (w : World) (hl : bs.length = m) (hn : m ≤ c) (hc : c ≤ maxLen) (hb : m ≤ 8796093022207) (hB : B ≤ w.heap.size) (hr : Rd w B A (by8 bs)) :
    Calls Try.prog 20 #[.slice A m c] w (OpenTQ w bs) := by
  have HR := hide hr
  have HL := hide hl
  have hc' := hc
  have hnm := sizeS_leb (bs := bs)
  rw [hl] at hnm
  have HT0 : Hid (tT bs = txsS bs (hT bs).1 (hT bs).2.1 (hT bs).2.2) := hide rfl
  obtain ⟨⟨n, a0, e0⟩, hh⟩ : ∃ x, x = hT bs := ⟨_, rfl⟩
  rw [← hh] at hnm HT0
  have hh2 : sizeS bs 0 0 (m : Nat) = (n, a0, e0) := by rw [hh, hT, hl]
  have HHd := hide hh2
  dsimp only at hnm HT0
  unfold maxLen at hc
  clear hr hl hh hh2
  obtain ⟨is, his, hzs, hszs, hbys⟩ := info_parts Try.infoS
  go_enter Try.func20, Try.ntmps20
  go_wp2_with (fail)
  obtain ⟨G, hG⟩ : ∃ x, x = w.heap.size := ⟨_, rfl⟩
  obtain ⟨P, hP⟩ : ∃ x, x = w.heap.size + 1 := ⟨_, rfl⟩
  obtain ⟨w1, hw1⟩ : ∃ x, x = (w.alloc (.cells #[.slice none 0 0, .slice none 0 0, .slice none 0 0] 77)).alloc (.cells #[.pointer (some ⟨w.heap.size, 0, none⟩)] 42) := ⟨_, rfl⟩
  have f1 : Fr No w w1 := by rw [hw1]; exact ((Fr.refl No w).alloc _).alloc _
  have htm : TxM w1 w.heap.size P G (.slice none 0 0) 0 [] := by
    refine ⟨?_, ?_, Own.nil _ _ _ _⟩
    · rw [hw1, hG, heap_alloc_old _ _ (by simp)]; exact heap_alloc_new w _
    · have := heap_alloc_new (w.alloc (.cells #[.slice none 0 0, .slice none 0 0, .slice none 0 0] 77)) (.cells #[.pointer (some ⟨w.heap.size, 0, none⟩)] 42)
      rw [hw1, hP, hG]; simpa using this
  have hz1 : w1.heap.size = w.heap.size + 2 := by rw [hw1]; simp
  rw [← hw1, ← hP, ← hG]
  have HN := hide (newReader_any A m c B bs w1 HL.out hn hc' (by omega) (by have := f1.size; omega) (HR.out.fr0 f1))
  have HTm1 := hide htm
  have HF1 := hide f1
  have HG := hide hG
  have HP := hide hP
  clear hw1 f1 htm hP hG
  refine HN.out.mono ?_
  rintro en w2 ⟨g, rfl, hg, hrd, hf⟩
  have HF2 := hide (HF1.out.tr hf)
  have HTm2 := hide (HTm1.out.fr0 hf)
  have HRd2 := hide hrd
  have HGg : Hid (w.heap.size ≤ g) := hide (by omega)
  have HSz := hide (sizeN_any g bs 0 0 (m : Nat) w2 hrd (by omega) (by omega))
  rw [HHd.out] at HSz
  dsimp only at HSz
  clear hf hrd hg HN HTm1 HF1 hz1
  go_wp2_with (fail)
  refine HSz.out.mono ?_
  rintro en w3 ⟨rfl, hrd, hf⟩
  have HF3 : Hid (Fr No w w3) := hide (HF2.out.trans hf (fun i hi e => by have e : i = g := e; have := HGg.out; omega))
  have HTm3 := hide (HTm2.out.rd HRd2.out hf)
  have HRd3 := hide hrd
  clear hrd hf HSz HTm2 HF2 HRd2 HHd
  go_wp2_with (fail)
  go_loopw [6] (fun i wr => ∃ (k m' a : Nat) (e : Int) (vt : Value) (ts : List Tx), i = .int .i64 (m' : Nat) ∧ k + m' ≤ m ∧ Hid (k = ts.length) ∧ Hid (tT bs = (ts ++ (txsS bs m' a e).1, (txsS bs m' a e).2)) ∧ Hid (Fr No w wr) ∧ Hid (RD wr g bs a e) ∧ Hid (TxM wr w.heap.size P G vt k ts)) (fun i _ => (intOf i).toNat)
  case atStart => exact ⟨0, n, a0, e0, .slice none 0 0, [], by go_num, by omega, hide rfl, hide (by rw [HT0.out]; simp), HF3, HRd3, HTm3⟩
  case round =>
    clear HF3 HRd3 HTm3 HT0
    obtain ⟨wo, rfl⟩ : ∃ wo : World, wo = wr := ⟨_, rfl⟩
    obtain ⟨k, m', a, e, vt, ts, rfl, hkm, HKl, HTt, HF, HRd, HTm⟩ := hrel
    have HEr := hide (err_any g bs a e wo HRd.out)
    by_cases hgo : 0 < m' ∧ e = 0
    · obtain ⟨hm0, rfl⟩ := hgo
      obtain ⟨m1, hm1⟩ : ∃ x, x + 1 = m' := ⟨m' - 1, by omega⟩
      have em : (m' : Int) - 1 = (m1 : Int) := by omega
      obtain ⟨⟨t, a', e'⟩, htx⟩ : ∃ x, x = textS bs a 0 256 := ⟨_, rfl⟩
      have HTx := hide (fun W (h : RD W g bs a 0) => text_any g bs a 0 256 W h (by omega) (by omega))
      rw [← htx] at HTx
      dsimp only at HTx
      have htt := HTt.out
      rw [← hm1, txsS, if_pos rfl, ← htx] at htt
      dsimp only at htt
      have HTt' : Hid (tT bs = ((ts ++ [t]) ++ (txsS bs m1 a' e').1, (txsS bs m1 a' e').2)) := hide (by rw [htt]; simp)
      obtain ⟨At, ct, rfl, y1, y2, -⟩ := HTm.out.t.form
      have d0 : decide (0 < m') = true := decide_eq_true hm0
      have d1 : decide ((0 : Int) < (m' : Int)) = true := decide_eq_true (by omega)
      have b1 : (k + 1) * 16 ≤ 140737488355328 := by omega
      have b2 : k + 1 ≤ maxLen := by unfold maxLen; omega
      have kP : wo.drew.cell? ⟨P, 0, none⟩ = some (.pointer (some ⟨G, 0, none⟩)) := cell_of_row _ _ 0 _ _ _ HTm.out.p
      have kG : wo.drew.cell? ⟨G, 2, none⟩ = some (.slice At k ct) := cell_of_row _ _ 2 _ _ _ HTm.out.g
      unfold maxLen at y2
      clear htx htt
      go_upto_region 6 with (go_at_call 54; refine HEr.out.mono ?_; rintro en w' ⟨rfl, rfl⟩)
      refine wp_named fun K hK => ?_
      go_cut [] from 27 to 37 (fun wz => ∃ vt', Hid (TxM wz w.heap.size P G vt' (k + 1) (ts ++ [t])) ∧ Hid (RD wz g bs a' e') ∧ Hid (Fr No w wz))
      case first =>
        have HPG : Hid (¬ Is G P) := hide (fun e => by have e : P = G := e; have := HG.out; have := HP.out; omega)
        refine wp_region_held_drew (S := fun W => W.cell? ⟨P, 0, none⟩ = some (.pointer (some ⟨G, 0, none⟩))) (by kernel_rfl) kP (fun hS0 => ?_)
        refine wpAnyH_take (i := 0) (v := (.pointer (some ⟨G, 0, none⟩))) rfl (by kernel_rfl) (by kernel_rfl) (by kernel_rfl) (fun _ _ _ h => h) (Or.inl ⟨by rfl, fun w hSw => by go_simp⟩) (by assumption) ?_
        try simp only [Act.put, List.setIfInBounds_toArray, List.set_cons_zero, List.set_cons_succ]
        refine wpAnyH_take (i := 1) (v := (.pointer (some ⟨G, 0, none⟩))) rfl (by kernel_rfl) (by kernel_rfl) (by kernel_rfl) (fun _ _ _ h => h) (Or.inl ⟨by rfl, fun w hSw => by go_simp⟩) (by assumption) ?_
        try simp only [Act.put, List.setIfInBounds_toArray, List.set_cons_zero, List.set_cons_succ]
        refine wpAnyH_take (i := 2) (v := (.pointer (some ⟨G, 0, none⟩))) rfl (by kernel_rfl) (by kernel_rfl) (by kernel_rfl) (fun _ _ _ h => h) (Or.inl ⟨by rfl, fun w hSw => by go_simp⟩) (by assumption) ?_
        try simp only [Act.put, List.setIfInBounds_toArray, List.set_cons_zero, List.set_cons_succ]
        refine wpAnyH_take (i := 3) (v := (.pointer (some ⟨G, 2, none⟩))) rfl (by kernel_rfl) (by kernel_rfl) (by kernel_rfl) (fun _ _ _ h => h) (Or.inl ⟨by rfl, fun w hSw => by go_simp⟩) (by assumption) ?_
        try simp only [Act.put, List.setIfInBounds_toArray, List.set_cons_zero, List.set_cons_succ]
        refine wpAnyH_take (i := 5) (v := (.pointer (some ⟨g, 0, none⟩))) rfl (by kernel_rfl) (by kernel_rfl) (by kernel_rfl) (fun _ _ _ h => h) (Or.inl ⟨by rfl, fun w hSw => by go_simp⟩) (by assumption) ?_
        try simp only [Act.put, List.setIfInBounds_toArray, List.set_cons_zero, List.set_cons_succ]
        refine wpAnyH_ready (rs := [4, 6]) (by kernel_rfl) (by simp) ?_
        refine AllReadyH.cons rfl (fun K hK => ?_) (AllReadyH.cons rfl (fun K hK => ?_) AllReadyH.nil)
        · go_simp
          refine hK.out _ _ kP (fun hS1 => ?_)
          clear hK K hS0
          have hS0 := hS1
          clear hS1
          try simp only [Act.put, List.setIfInBounds_toArray, List.set_cons_zero, List.set_cons_succ]
          refine wpAnyH_ready (rs := [6]) (by kernel_rfl) (by simp) ?_
          refine AllReadyH.cons rfl (fun K hK => ?_) AllReadyH.nil
          go_simp
          go_at_call 55
          refine (HTx.out _ (HRd.out.fr0 ((Fr.refl No wo).drew))).mono ?_
          rintro en w5 ⟨rfl, hrd, hf⟩
          have HRd5 := hide hrd
          have hf5 : Fr (Is g) wo w5 := Fr.of_drewN (n := 1) hf
          have HTm5 := hide (HTm.out.rd HRd.out hf5)
          have HF55 := hide hf5
          have HF5 : Hid (Fr No w w5) := hide (HF.out.trans hf5 (fun i hi e => by have e : i = g := e; have := HGg.out; omega))
          have HK5 : Hid (w5.cell? ⟨P, 0, none⟩ = some (.pointer (some ⟨G, 0, none⟩))) := hide (cell_of_row _ _ 0 _ _ _ HTm5.out.p)
          have kG5 : w5.cell? ⟨G, 2, none⟩ = some (.slice At k ct) := cell_of_row _ _ 2 _ _ _ HTm5.out.g
          have HTm6 := hide (HTm5.out.fr0 ((Fr.refl No w5).alloc (.cells #[.string ⟨t.toArray⟩] 9)))
          have HK6 : Hid ((w5.alloc (.cells #[.string ⟨t.toArray⟩] 9)).cell? ⟨P, 0, none⟩ = some (.pointer (some ⟨G, 0, none⟩))) := hide (cell_of_row _ _ 0 _ _ _ HTm6.out.p)
          have kG6 : (w5.alloc (.cells #[.string ⟨t.toArray⟩] 9)).cell? ⟨G, 2, none⟩ = some (.slice At k ct) := cell_of_row _ _ 2 _ _ _ HTm6.out.g
          have b3 : w.heap.size ≤ (w5.alloc (.cells #[.string ⟨t.toArray⟩] 9)).heap.size := (HF5.out.alloc _).size
          have HS6 := hide (Src.one (P := Try.prog) w5 (e := 9) Try.underlying45 (.string ⟨t.toArray⟩) rfl)
          clear hrd hf hf5
          refine hK.out _ _ HK5.out (fun hS1 => ?_)
          clear hK K hS0
          have hS0 := hS1
          clear hS1
          try simp only [Act.put, List.setIfInBounds_toArray, List.set_cons_zero, List.set_cons_succ]
          refine wpAnyH_ready (rs := [7]) (by kernel_rfl) (by simp) ?_
          refine AllReadyH.cons rfl (fun K hK => ?_) AllReadyH.nil
          go_simp
          refine hK.out _ _ HK6.out (fun hS1 => ?_)
          clear hK K hS0
          have hS0 := hS1
          clear hS1
          try simp only [Act.put, List.setIfInBounds_toArray, List.set_cons_zero, List.set_cons_succ]
          refine wpAnyH_ready (rs := [8]) (by kernel_rfl) (by simp) ?_
          refine AllReadyH.cons rfl (fun K hK => ?_) AllReadyH.nil
          refine step_append_any rfl (.tmp 31) (.tmp 34) 45 45 rfl w.heap.size 9 is (.string ⟨#[]⟩) 1 16 Try.underlying45 his hzs hszs hbys rfl (.slice At k ct) k (svs ts) rfl HTm6.out.t _ 1 [.string ⟨t.toArray⟩] rfl HS6.out b1 b2 b3 ?_
          intro v12 w12 hown hfr
          obtain ⟨A12, c12, rfl, z1, z2, -⟩ := hown.form
          have HO12 := hide hown
          have HF12 := hide hfr
          have hg12 := hfr.blk HTm6.out.g (fun e => HTm6.out.t.ne_blk e HTm6.out.g (by decide))
          have hp12 := hfr.blk HTm6.out.p (fun e => HTm6.out.t.ne_blk e HTm6.out.p (by decide))
          have HG12 := hide hg12
          have HP12 := hide hp12
          have HK12 : Hid (w12.cell? ⟨P, 0, none⟩ = some (.pointer (some ⟨G, 0, none⟩))) := hide (cell_of_row _ _ 0 _ _ _ hp12)
          have kG12 : w12.cell? ⟨G, 2, none⟩ = some (.slice At k ct) := cell_of_row _ _ 2 _ _ _ hg12
          have fz12 : w12.frozen? ⟨G, 2, none⟩ = false := frozen_of_row _ _ _ _ _ hg12
          unfold maxLen at z2
          clear hown hfr hg12 hp12
          refine hK.out _ _ HK12.out (fun hS1 => ?_)
          clear hK K hS0
          have hS0 := hS1
          clear hS1
          try simp only [Act.put, List.setIfInBounds_toArray, List.set_cons_zero, List.set_cons_succ]
          refine wpAnyH_take (i := 9) (v := (.pointer (some ⟨G, 0, none⟩))) rfl (by kernel_rfl) (by kernel_rfl) (by kernel_rfl) (fun _ _ _ h => h) (Or.inl ⟨by rfl, fun w hSw => by go_simp⟩) (by assumption) ?_
          try simp only [Act.put, List.setIfInBounds_toArray, List.set_cons_zero, List.set_cons_succ]
          refine wpAnyH_take (i := 10) (v := (.pointer (some ⟨G, 2, none⟩))) rfl (by kernel_rfl) (by kernel_rfl) (by kernel_rfl) (fun _ _ _ h => h) (Or.inl ⟨by rfl, fun w hSw => by go_simp⟩) (by assumption) ?_
          try simp only [Act.put, List.setIfInBounds_toArray, List.set_cons_zero, List.set_cons_succ]
          refine wpAnyH_ready (rs := [11]) (by kernel_rfl) (by simp) ?_
          refine AllReadyH.cons rfl (fun K hK => ?_) AllReadyH.nil
          go_simp
          refine hK.out _ _ (((Fr.refl (Is G) w12).put 2 _).cell HK12.out HPG.out) (fun hS1 => ?_)
          clear hK K hS0
          have hS0 := hS1
          clear hS1
          try simp only [Act.put, List.setIfInBounds_toArray, List.set_cons_zero, List.set_cons_succ]
          refine wpAnyH_done (by kernel_rfl) ?_ _
          go_wp2
          go_meet
          have f9 : Fr (Is G) w12 (w12.setCell ⟨G, 2, none⟩ (.slice A12 (k + 1) c12)) := (Fr.refl (Is G) w12).put 2 _
          have r9 := heap_setCell_same w12 G 2 _ _ (.slice A12 (k + 1) c12) HG12.out
          have o6 : ∀ ty, ty ≠ 9 → Off (fun k' => (Value.slice At k ct).ownBlock = some k') (w5.alloc (.cells #[.string ⟨t.toArray⟩] 9)) ty := fun ty ht => off_own HTm6.out.t ht
          have o9 : ∀ ty, ty ≠ 77 → Off (Is G) w12 ty := fun ty ht => off_is HG12.out ht
          refine ⟨.slice A12 (k + 1) c12, hide ⟨by simpa using r9, f9.blk HP12.out HPG.out, ?_⟩, hide ((((HRd5.out.fr0 ((Fr.refl No w5).alloc _)).offT HF12.out (o6 _ (by decide)) (o6 _ (by decide)))).offT f9 (o9 _ (by decide)) (o9 _ (by decide))), hide ?_⟩
          · rw [svs_snoc]
            exact HO12.out.off f9 (o9 _ (by decide))
          · have h8 : Fr No w w12 := (HF5.out.alloc _).own HF12.out (fun g hg => .inl (HTm6.out.t.lt g hg).1)
            exact h8.trans f9 (fun i hi e => by have e : i = G := e; have := HG.out; omega)
        · go_simp
          go_at_call 55
          refine (HTx.out _ (HRd.out.fr0 ((Fr.refl No wo).drew))).mono ?_
          rintro en w5 ⟨rfl, hrd, hf⟩
          have HRd5 := hide hrd
          have hf5 : Fr (Is g) wo w5 := Fr.of_drewN (n := 1) hf
          have HTm5 := hide (HTm.out.rd HRd.out hf5)
          have HF55 := hide hf5
          have HF5 : Hid (Fr No w w5) := hide (HF.out.trans hf5 (fun i hi e => by have e : i = g := e; have := HGg.out; omega))
          have HK5 : Hid (w5.cell? ⟨P, 0, none⟩ = some (.pointer (some ⟨G, 0, none⟩))) := hide (cell_of_row _ _ 0 _ _ _ HTm5.out.p)
          have kG5 : w5.cell? ⟨G, 2, none⟩ = some (.slice At k ct) := cell_of_row _ _ 2 _ _ _ HTm5.out.g
          have HTm6 := hide (HTm5.out.fr0 ((Fr.refl No w5).alloc (.cells #[.string ⟨t.toArray⟩] 9)))
          have HK6 : Hid ((w5.alloc (.cells #[.string ⟨t.toArray⟩] 9)).cell? ⟨P, 0, none⟩ = some (.pointer (some ⟨G, 0, none⟩))) := hide (cell_of_row _ _ 0 _ _ _ HTm6.out.p)
          have kG6 : (w5.alloc (.cells #[.string ⟨t.toArray⟩] 9)).cell? ⟨G, 2, none⟩ = some (.slice At k ct) := cell_of_row _ _ 2 _ _ _ HTm6.out.g
          have b3 : w.heap.size ≤ (w5.alloc (.cells #[.string ⟨t.toArray⟩] 9)).heap.size := (HF5.out.alloc _).size
          have HS6 := hide (Src.one (P := Try.prog) w5 (e := 9) Try.underlying45 (.string ⟨t.toArray⟩) rfl)
          clear hrd hf hf5
          refine hK.out _ _ HK5.out (fun hS1 => ?_)
          clear hK K hS0
          have hS0 := hS1
          clear hS1
          try simp only [Act.put, List.setIfInBounds_toArray, List.set_cons_zero, List.set_cons_succ]
          refine wpAnyH_ready (rs := [4, 7]) (by kernel_rfl) (by simp) ?_
          refine AllReadyH.cons rfl (fun K hK => ?_) (AllReadyH.cons rfl (fun K hK => ?_) AllReadyH.nil)
          · go_simp
            refine hK.out _ _ HK5.out (fun hS1 => ?_)
            clear hK K hS0
            have hS0 := hS1
            clear hS1
            try simp only [Act.put, List.setIfInBounds_toArray, List.set_cons_zero, List.set_cons_succ]
            refine wpAnyH_ready (rs := [7]) (by kernel_rfl) (by simp) ?_
            refine AllReadyH.cons rfl (fun K hK => ?_) AllReadyH.nil
            go_simp
            refine hK.out _ _ HK6.out (fun hS1 => ?_)
            clear hK K hS0
            have hS0 := hS1
            clear hS1
            try simp only [Act.put, List.setIfInBounds_toArray, List.set_cons_zero, List.set_cons_succ]
            refine wpAnyH_ready (rs := [8]) (by kernel_rfl) (by simp) ?_
            refine AllReadyH.cons rfl (fun K hK => ?_) AllReadyH.nil
            refine step_append_any rfl (.tmp 31) (.tmp 34) 45 45 rfl w.heap.size 9 is (.string ⟨#[]⟩) 1 16 Try.underlying45 his hzs hszs hbys rfl (.slice At k ct) k (svs ts) rfl HTm6.out.t _ 1 [.string ⟨t.toArray⟩] rfl HS6.out b1 b2 b3 ?_
            intro v12 w12 hown hfr
            obtain ⟨A12, c12, rfl, z1, z2, -⟩ := hown.form
            have HO12 := hide hown
            have HF12 := hide hfr
            have hg12 := hfr.blk HTm6.out.g (fun e => HTm6.out.t.ne_blk e HTm6.out.g (by decide))
            have hp12 := hfr.blk HTm6.out.p (fun e => HTm6.out.t.ne_blk e HTm6.out.p (by decide))
            have HG12 := hide hg12
            have HP12 := hide hp12
            have HK12 : Hid (w12.cell? ⟨P, 0, none⟩ = some (.pointer (some ⟨G, 0, none⟩))) := hide (cell_of_row _ _ 0 _ _ _ hp12)
            have kG12 : w12.cell? ⟨G, 2, none⟩ = some (.slice At k ct) := cell_of_row _ _ 2 _ _ _ hg12
            have fz12 : w12.frozen? ⟨G, 2, none⟩ = false := frozen_of_row _ _ _ _ _ hg12
            unfold maxLen at z2
            clear hown hfr hg12 hp12
            refine hK.out _ _ HK12.out (fun hS1 => ?_)
            clear hK K hS0
            have hS0 := hS1
            clear hS1
            try simp only [Act.put, List.setIfInBounds_toArray, List.set_cons_zero, List.set_cons_succ]
            refine wpAnyH_take (i := 9) (v := (.pointer (some ⟨G, 0, none⟩))) rfl (by kernel_rfl) (by kernel_rfl) (by kernel_rfl) (fun _ _ _ h => h) (Or.inl ⟨by rfl, fun w hSw => by go_simp⟩) (by assumption) ?_
            try simp only [Act.put, List.setIfInBounds_toArray, List.set_cons_zero, List.set_cons_succ]
            refine wpAnyH_take (i := 10) (v := (.pointer (some ⟨G, 2, none⟩))) rfl (by kernel_rfl) (by kernel_rfl) (by kernel_rfl) (fun _ _ _ h => h) (Or.inl ⟨by rfl, fun w hSw => by go_simp⟩) (by assumption) ?_
            try simp only [Act.put, List.setIfInBounds_toArray, List.set_cons_zero, List.set_cons_succ]
            refine wpAnyH_ready (rs := [11]) (by kernel_rfl) (by simp) ?_
            refine AllReadyH.cons rfl (fun K hK => ?_) AllReadyH.nil
            go_simp
            refine hK.out _ _ (((Fr.refl (Is G) w12).put 2 _).cell HK12.out HPG.out) (fun hS1 => ?_)
            clear hK K hS0
            have hS0 := hS1
            clear hS1
            try simp only [Act.put, List.setIfInBounds_toArray, List.set_cons_zero, List.set_cons_succ]
            refine wpAnyH_done (by kernel_rfl) ?_ _
            go_wp2
            go_meet
            have f9 : Fr (Is G) w12 (w12.setCell ⟨G, 2, none⟩ (.slice A12 (k + 1) c12)) := (Fr.refl (Is G) w12).put 2 _
            have r9 := heap_setCell_same w12 G 2 _ _ (.slice A12 (k + 1) c12) HG12.out
            have o6 : ∀ ty, ty ≠ 9 → Off (fun k' => (Value.slice At k ct).ownBlock = some k') (w5.alloc (.cells #[.string ⟨t.toArray⟩] 9)) ty := fun ty ht => off_own HTm6.out.t ht
            have o9 : ∀ ty, ty ≠ 77 → Off (Is G) w12 ty := fun ty ht => off_is HG12.out ht
            refine ⟨.slice A12 (k + 1) c12, hide ⟨by simpa using r9, f9.blk HP12.out HPG.out, ?_⟩, hide ((((HRd5.out.fr0 ((Fr.refl No w5).alloc _)).offT HF12.out (o6 _ (by decide)) (o6 _ (by decide)))).offT f9 (o9 _ (by decide)) (o9 _ (by decide))), hide ?_⟩
            · rw [svs_snoc]
              exact HO12.out.off f9 (o9 _ (by decide))
            · have h8 : Fr No w w12 := (HF5.out.alloc _).own HF12.out (fun g hg => .inl (HTm6.out.t.lt g hg).1)
              exact h8.trans f9 (fun i hi e => by have e : i = G := e; have := HG.out; omega)
          · go_simp
            refine hK.out _ _ HK6.out (fun hS1 => ?_)
            clear hK K hS0
            have hS0 := hS1
            clear hS1
            try simp only [Act.put, List.setIfInBounds_toArray, List.set_cons_zero, List.set_cons_succ]
            refine wpAnyH_ready (rs := [4]) (by kernel_rfl) (by simp) ?_
            refine AllReadyH.cons rfl (fun K hK => ?_) AllReadyH.nil
            go_simp
            refine hK.out _ _ HK6.out (fun hS1 => ?_)
            clear hK K hS0
            have hS0 := hS1
            clear hS1
            try simp only [Act.put, List.setIfInBounds_toArray, List.set_cons_zero, List.set_cons_succ]
            refine wpAnyH_ready (rs := [8]) (by kernel_rfl) (by simp) ?_
            refine AllReadyH.cons rfl (fun K hK => ?_) AllReadyH.nil
            refine step_append_any rfl (.tmp 31) (.tmp 34) 45 45 rfl w.heap.size 9 is (.string ⟨#[]⟩) 1 16 Try.underlying45 his hzs hszs hbys rfl (.slice At k ct) k (svs ts) rfl HTm6.out.t _ 1 [.string ⟨t.toArray⟩] rfl HS6.out b1 b2 b3 ?_
            intro v12 w12 hown hfr
            obtain ⟨A12, c12, rfl, z1, z2, -⟩ := hown.form
            have HO12 := hide hown
            have HF12 := hide hfr
            have hg12 := hfr.blk HTm6.out.g (fun e => HTm6.out.t.ne_blk e HTm6.out.g (by decide))
            have hp12 := hfr.blk HTm6.out.p (fun e => HTm6.out.t.ne_blk e HTm6.out.p (by decide))
            have HG12 := hide hg12
            have HP12 := hide hp12
            have HK12 : Hid (w12.cell? ⟨P, 0, none⟩ = some (.pointer (some ⟨G, 0, none⟩))) := hide (cell_of_row _ _ 0 _ _ _ hp12)
            have kG12 : w12.cell? ⟨G, 2, none⟩ = some (.slice At k ct) := cell_of_row _ _ 2 _ _ _ hg12
            have fz12 : w12.frozen? ⟨G, 2, none⟩ = false := frozen_of_row _ _ _ _ _ hg12
            unfold maxLen at z2
            clear hown hfr hg12 hp12
            refine hK.out _ _ HK12.out (fun hS1 => ?_)
            clear hK K hS0
            have hS0 := hS1
            clear hS1
            try simp only [Act.put, List.setIfInBounds_toArray, List.set_cons_zero, List.set_cons_succ]
            refine wpAnyH_take (i := 9) (v := (.pointer (some ⟨G, 0, none⟩))) rfl (by kernel_rfl) (by kernel_rfl) (by kernel_rfl) (fun _ _ _ h => h) (Or.inl ⟨by rfl, fun w hSw => by go_simp⟩) (by assumption) ?_
            try simp only [Act.put, List.setIfInBounds_toArray, List.set_cons_zero, List.set_cons_succ]
            refine wpAnyH_take (i := 10) (v := (.pointer (some ⟨G, 2, none⟩))) rfl (by kernel_rfl) (by kernel_rfl) (by kernel_rfl) (fun _ _ _ h => h) (Or.inl ⟨by rfl, fun w hSw => by go_simp⟩) (by assumption) ?_
            try simp only [Act.put, List.setIfInBounds_toArray, List.set_cons_zero, List.set_cons_succ]
            refine wpAnyH_ready (rs := [11]) (by kernel_rfl) (by simp) ?_
            refine AllReadyH.cons rfl (fun K hK => ?_) AllReadyH.nil
            go_simp
            refine hK.out _ _ (((Fr.refl (Is G) w12).put 2 _).cell HK12.out HPG.out) (fun hS1 => ?_)
            clear hK K hS0
            have hS0 := hS1
            clear hS1
            try simp only [Act.put, List.setIfInBounds_toArray, List.set_cons_zero, List.set_cons_succ]
            refine wpAnyH_done (by kernel_rfl) ?_ _
            go_wp2
            go_meet
            have f9 : Fr (Is G) w12 (w12.setCell ⟨G, 2, none⟩ (.slice A12 (k + 1) c12)) := (Fr.refl (Is G) w12).put 2 _
            have r9 := heap_setCell_same w12 G 2 _ _ (.slice A12 (k + 1) c12) HG12.out
            have o6 : ∀ ty, ty ≠ 9 → Off (fun k' => (Value.slice At k ct).ownBlock = some k') (w5.alloc (.cells #[.string ⟨t.toArray⟩] 9)) ty := fun ty ht => off_own HTm6.out.t ht
            have o9 : ∀ ty, ty ≠ 77 → Off (Is G) w12 ty := fun ty ht => off_is HG12.out ht
            refine ⟨.slice A12 (k + 1) c12, hide ⟨by simpa using r9, f9.blk HP12.out HPG.out, ?_⟩, hide ((((HRd5.out.fr0 ((Fr.refl No w5).alloc _)).offT HF12.out (o6 _ (by decide)) (o6 _ (by decide)))).offT f9 (o9 _ (by decide)) (o9 _ (by decide))), hide ?_⟩
            · rw [svs_snoc]
              exact HO12.out.off f9 (o9 _ (by decide))
            · have h8 : Fr No w w12 := (HF5.out.alloc _).own HF12.out (fun g hg => .inl (HTm6.out.t.lt g hg).1)
              exact h8.trans f9 (fun i hi e => by have e : i = G := e; have := HG.out; omega)
      case rest =>
        obtain ⟨vt', HTm9, HRd9, HF9⟩ := hcut
        refine hK _ _ ?_
        clear hK kP kG HTm HRd HF b1 b2
        go_wp2_with (fail)
        go_roundw
        case rel => exact ⟨k + 1, m1, a', e', vt', ts ++ [t], by go_num, by omega, hide (by rw [List.length_append, ← HKl.out]; rfl), HTt', HF9, HRd9, HTm9⟩
        case measure => simp [intOf]; omega
    · have htT : tT bs = (ts, a, e) := by
        rw [HTt.out]
        cases m' with
        | zero => simp [txsS]
        | succ m1 =>
          have he : e ≠ 0 := fun h => hgo ⟨by omega, h⟩
          simp [txsS, he]
      have HTf := hide htT
      clear HTt htT
      go_upto_region 4 with (fail)
      refine wp_named fun K hK => ?_
      go_cut [24] from 18 to 24 (fun v wx => v = .bool false ∧ wo = wx)
      case first =>
        by_cases hm0 : 0 < m'
        · have he : (e == 0) = false := by
            have : e ≠ 0 := fun h => hgo ⟨hm0, h⟩
            simpa using this
          have d0 : decide (0 < m') = true := decide_eq_true hm0
          have d1 : decide ((0 : Int) < (m' : Int)) = true := decide_eq_true (by omega)
          clear hgo
          go_wp2_with (go_at_call 54; refine HEr.out.mono ?_; rintro en w' ⟨rfl, rfl⟩)
          go_meet
          exact ⟨rfl, rfl⟩
        · obtain rfl : m' = 0 := by omega
          clear hgo hm0
          go_wp2
          go_meet
          exact ⟨rfl, rfl⟩
      case rest =>
        obtain ⟨rfl, rfl⟩ := hcut
        refine hK _ _ ?_
        clear hK hgo
        obtain ⟨At, ct, rfl, y1, y2, -⟩ := HTm.out.t.form
        unfold maxLen at y2
        by_cases he : e = 0
        · subst he
          have hal : a ≤ bs.length := by
            obtain ⟨_, _, _, _, _, h4, _⟩ := HRd.out
            exact h4
          obtain ⟨rl, hrl⟩ : ∃ x, x = bs.length - a := ⟨_, rfl⟩
          obtain ⟨rest, hrest⟩ : ∃ x, x = bs.drop a := ⟨_, rfl⟩
          have hrT : restT bs = rest := by rw [restT, HTf.out, hrest]
          have hrestl : rest.length = rl := by rw [hrest, hrl, List.length_drop]
          have hrlm : rl ≤ m := by have := HL.out; omega
          have hbyt : bytesS bs a 0 (rl : Nat) = (rest, a + rl, 0) := by
            rw [bS_ok (by omega), ← hrest, List.take_of_length_le (by omega)]
          have HLf := hide (fun W (h : RD W g bs a 0) => left_any g bs a 0 W h)
          rw [← hrl] at HLf
          have HBy := hide (fun W (h : RD W g bs a 0) => bytes_any g bs a 0 (rl : Nat) W h)
          rw [hbyt] at HBy
          dsimp only at HBy
          have HRl := hide hrestl
          have HRT := hide hrT
          have HRead := hide (fun (A' : Option Addr) (c' : Nat) W h1 h2 h3 => read_any A' rl c' W.heap.size rest W hrestl h1 h2 (by omega) (Nat.le_refl _) h3)
          clear hal hrl hrest hrT hrestl hbyt
          have kP : wo.drew.cell? ⟨P, 0, none⟩ = some (.pointer (some ⟨G, 0, none⟩)) := cell_of_row _ _ 0 _ _ _ HTm.out.p
          go_upto_region 10 with (go_at_call 54; refine HEr.out.mono ?_; rintro en w' ⟨rfl, rfl⟩)
          refine wp_named fun K hK => ?_
          go_cut [7] from 41 to 51 (fun v7 wz => ∃ A1 n1 c1 A2 n2 c2 b, v7 = .bool b ∧ Hid (wz.heap[G]? = some (.cells #[.slice A1 n1 c1, .slice A2 n2 c2, .slice At k ct] 77 (0, 0))) ∧ Hid (wz.heap[P]? = some (.cells #[.pointer (some ⟨G, 0, none⟩)] 42 (0, 0))) ∧ Hid (Own wz w.heap.size 9 1 (.slice At k ct) k (svs ts)) ∧ Hid (Fr No w wz) ∧
            Hid (b = true → rdOk rest ∧ n1 = nV rest ∧ n2 = (aV rest).1.length ∧ Own wz w.heap.size 3 1 (.slice A1 n1 c1) n1 (iz .i64 (endsV (bV rest).1 (lV rest).1 (nV rest))) ∧ Own wz w.heap.size 2 1 (.slice A2 n2 c2) n2 (iz .i64 (aV rest).1)) ∧ Hid (b = false → ¬ rdOk rest))
          case first =>
            have HK0 := hide kP
            have HPG : Hid (¬ Is G P) := hide (fun e => by have e : P = G := e; have := HG.out; have := HP.out; omega)
            go_region_held3 (fun W => W.cell? ⟨P, 0, none⟩ = some (.pointer (some ⟨G, 0, none⟩))) (first | with_reducible exact (((Fr.refl (Is G) w7).put 0 _).put 1 _).cell HK7.out HPG.out | with_reducible exact HK7.out | with_reducible exact HK6.out | with_reducible exact HK5.out | with_reducible exact HK0.out) (first
              | (go_at_call 57; refine (HLf.out _ (HRd.out.fr0 ((Fr.refl No wo).drew))).mono ?_; rintro en w5 ⟨rfl, nq, hw5⟩; have hf5 : Fr No wo w5 := (by rw [hw5]; exact ((Fr.refl No wo).drew).drewN nq); have HRd5 := hide (HRd.out.fr0 hf5); have HTm5 := hide (HTm.out.fr0 hf5); have HF5 := hide (HF.out.tr hf5); have HK5 : Hid (w5.cell? ⟨P, 0, none⟩ = some (.pointer (some ⟨G, 0, none⟩))) := hide (cell_of_row _ _ 0 _ _ _ HTm5.out.p); clear hw5 hf5)
              | (go_at_call 56; refine (HBy.out _ HRd5.out).mono ?_; rintro en w6 ⟨v6, rfl, hown, hrd, hf⟩; rw [HRl.out] at hown; obtain ⟨A6, c6, rfl, p1, p2, _, p3, _⟩ := hown.form; have HTm6 := hide (HTm5.out.rd HRd5.out hf); have HF6 : Hid (Fr No w w6) := hide (HF5.out.trans hf (fun i hi e => by have e : i = g := e; have := HGg.out; omega)); have HK6 : Hid (w6.cell? ⟨P, 0, none⟩ = some (.pointer (some ⟨G, 0, none⟩))) := hide (cell_of_row _ _ 0 _ _ _ HTm6.out.p); have HRe := hide (HRead.out A6 c6 w6 p1 p2 p3); unfold maxLen at p2; clear hown hrd hf p3)
              | (go_at_call 36; refine HRe.out.mono ?_; intro en w7 hrp; obtain ⟨A1, n1, c1, A2, n2, c2, b, rfl, hf, hyes, hno⟩ := hrp.uni; have HTm7 := hide (HTm6.out.fr0 hf); have HF7 := hide (HF6.out.tr hf); have HYes := hide hyes; have HNoB := hide hno; have hg7 := HTm7.out.g; have HK7 : Hid (w7.cell? ⟨P, 0, none⟩ = some (.pointer (some ⟨G, 0, none⟩))) := hide (cell_of_row _ _ 0 _ _ _ HTm7.out.p); have g0 : w7.cell? ⟨G, 0, none⟩ = some (.slice none 0 0) := cell_of_row _ _ 0 _ _ _ hg7; have g1 : w7.cell? ⟨G, 1, none⟩ = some (.slice none 0 0) := cell_of_row _ _ 1 _ _ _ hg7; have z0 : w7.frozen? ⟨G, 0, none⟩ = false := frozen_of_row _ _ _ _ _ hg7; have z1 : w7.frozen? ⟨G, 1, none⟩ = false := frozen_of_row _ _ _ _ _ hg7; have HSz6 : Hid (w.heap.size ≤ w6.heap.size) := hide HF6.out.size; clear hrp hf hyes hno hg7))
            all_goals (go_wp2; go_meet)
            all_goals (
              have f9 : Fr (Is G) w7 ((w7.setCell ⟨G, 0, none⟩ (.slice A1 n1 c1)).setCell ⟨G, 1, none⟩ (.slice A2 n2 c2)) := ((Fr.refl (Is G) w7).put 0 _).put 1 _
              have r1 := heap_setCell_same w7 G 0 _ _ (.slice A1 n1 c1) HTm7.out.g
              have r2 := heap_setCell_same _ G 1 _ _ (.slice A2 n2 c2) r1
              have o9 : ∀ ty, ty ≠ 77 → Off (Is G) w7 ty := fun ty ht => off_is HTm7.out.g ht
              refine ⟨A1, n1, c1, A2, n2, c2, b, rfl, hide (by simpa using r2), hide (f9.blk HTm7.out.p HPG.out), hide (HTm7.out.t.off f9 (o9 _ (by decide))), hide (HF7.out.trans f9 (fun i hi e => by have e : i = G := e; have := HG.out; omega)), hide (fun hb => ?_), HNoB⟩
              obtain ⟨q1, q2, q3, q4, q5⟩ := HYes.out hb
              exact ⟨q1, q2, q3, (q4.off f9 (o9 _ (by decide))).lower HSz6.out, (q5.off f9 (o9 _ (by decide))).lower HSz6.out⟩)
          case rest =>
            obtain ⟨A1, n1, c1, A2, n2, c2, b, rfl, HGb, HPb, HOt, HFz, HYes, HNoB⟩ := hcut
            obtain ⟨w8, rfl⟩ : ∃ W : World, W = wc := ⟨_, rfl⟩
            refine hK _ _ ?_
            clear hK kP HLf HBy HRead HTm HRd HF HEr
            cases b with
            | false =>
              have HNo : Hid (¬ accT bs) := hide (fun h => by have h1 := h.2.1; rw [HRT.out] at h1; exact HNoB.out rfl h1)
              go_wp2
              go_ret2
              exact ⟨HFz.out, .inl ⟨HNo.out, rfl⟩⟩
            | true =>
              obtain ⟨hok, hn1, hn2, o1, o2⟩ := HYes.out rfl
              have hfit := fitV hok
              have hn16 := nV_le rest
              have hal := (show (aV rest).1.length ≤ 1048576 by
                rcases getZ_cases ((restV rest).drop (lV rest).2.1) (sV rest : Nat) with h1 | h1
                · unfold aV; rw [h1.2.1]; simp
                · have h2 := h1.2.1; have h3 := h1.2.2.1; unfold aV; omega)
              have hin := aV_in rest
              have hflat := all_flat hok
              have hrok := rdV_ok hok
              have HRows : Hid (rowsV (bV rest).1 (lV rest).1 (aV rest).1 (nV rest) = rdV rest) := hide rfl
              obtain ⟨bits, hbits⟩ : ∃ x, x = (bV rest).1 := ⟨_, rfl⟩
              obtain ⟨lens, hlens⟩ : ∃ x, x = (lV rest).1 := ⟨_, rfl⟩
              obtain ⟨all, hall⟩ : ∃ x, x = (aV rest).1 := ⟨_, rfl⟩
              obtain ⟨n9, hn9⟩ : ∃ x, x = nV rest := ⟨_, rfl⟩
              rw [← hbits, ← hlens, ← hall, ← hn9] at HRows hfit
              rw [← hall] at hn2 hal o2 hin hflat
              rw [← hbits, ← hlens, ← hn9] at o1
              rw [← hn9] at hn1 hn16
              subst hn1
              have HOk := hide hok
              have HAll := hide hall
              have HN9 := hide hn9
              have HFlat := hide hflat
              have HROk := hide hrok
              have HCol : Hid (ColT w8 w.heap.size G bits lens all n1 ts) := hide ⟨⟨⟨_, _, cell_of_row _ _ 0 _ _ _ HGb.out, cell_of_row _ _ 1 _ _ _ HGb.out, o1, by rw [← hn2]; exact o2⟩, hfit, by rw [HG.out]; exact Nat.le_refl _⟩, At, ct, by rw [← HKl.out]; exact cell_of_row _ _ 2 _ _ _ HGb.out, by rw [← HKl.out]; exact HOt.out⟩
              have kP : w8.cell? ⟨P, 0, none⟩ = some (.pointer (some ⟨G, 0, none⟩)) := cell_of_row _ _ 0 _ _ _ HPb.out
              have k1 : w8.cell? ⟨G, 1, none⟩ = some (.slice A2 n2 c2) := cell_of_row _ _ 1 _ _ _ HGb.out
              have HCo := hide (containsBad_any (w := w8) (P := P) (G := G) (tk := k) (ct := ct) (At := At) kP (cell_of_row _ _ 2 _ _ _ HGb.out) (by omega) A2 n2 c2 w8.heap.size all hn2.symm hin o2.le.2.1 o2.le.2.2 (by omega) o2.rd)
              have HKP := hide kP
              obtain ⟨zz1, zz2⟩ := o2.le.2
              unfold maxLen at zz2
              have HN2 := hide hn2
              clear hok hfit hin hflat hrok hbits hlens hall hn9 o1 o2 hal HYes HNoB hn2
              go_wp2_with (fail)
              refine HCo.out.mono ?_
              rintro en w' ⟨rfl, ⟨rfl, hgood⟩ | ⟨rfl, hex⟩⟩ <;> obtain ⟨w8, rfl⟩ : ∃ W : World, W = w' := ⟨_, rfl⟩
              · have hgood2 : ∀ x ∈ all, 0 ≤ x ∧ x < (ts.length : Int) := fun x hx => by
                  have h1 := hgood x hx
                  unfold badK at h1
                  rw [← HKl.out]
                  omega
                have HGood := hide hgood
                have HGood2 := hide hgood2
                have HLen := hide (txLen_any HCol.out)
                clear hgood hgood2 HCo
                obtain ⟨i1, hi1, hz1, hsz1, hby1⟩ := info_parts Try.infoRT
                go_wp2_with (fail)
                refine HLen.out.mono ?_
                rintro en w' ⟨rfl, rfl⟩
                go_wp2_with (fail)
                go_loopw [8, 65] (fun v i wr => ∃ (q : Nat) (vals : List Value), q ≤ n1 ∧ i = .int .i64 (q : Nat) ∧ Hid (Fr No w8 wr) ∧ Hid (Own wr w8.heap.size 45 1 v q vals) ∧ Hid (ValsT wr w8.heap.size vals ((rowsV bits lens all q).map (pickT ts)))) (fun _ i _ => n1 - (intOf i).toNat)
                case atStart => exact ⟨0, [], by omega, by go_num, hide (Fr.refl _ _), hide (Own.nil _ _ _ _), hide (by simpa [rowsV] using ValsT.nil _ _)⟩
                case round =>
                  obtain ⟨wq, rfl⟩ : ∃ wo : World, wo = wr := ⟨_, rfl⟩
                  obtain ⟨q, vals, hq, rfl, HFq, HOq, HVq⟩ := hrel
                  have kPq := HFq.out.cell HKP.out (fun h => h)
                  by_cases hlt : q < n1
                  · have hmem : rowV bits lens all q ∈ rdV rest := by
                      rw [← HRows.out]
                      exact List.mem_map.2 ⟨q, List.mem_range.2 hlt, rfl⟩
                    have h64 := HROk.out.2 _ hmem
                    have hrg : ∀ x ∈ rowV bits lens all q, 0 ≤ x ∧ x < (ts.length : Int) := fun x hx => HGood2.out x (List.mem_of_mem_drop (List.mem_of_mem_take hx))
                    have HRw := hide (txRow_in (HCol.out.fr0 HFq.out) hlt hn16 h64 hrg)
                    obtain ⟨row, hrow⟩ : ∃ x, x = pickT ts (rowV bits lens all q) := ⟨_, rfl⟩
                    obtain ⟨li, hli⟩ : ∃ x, x = row.length := ⟨_, rfl⟩
                    rw [← hrow] at HRw
                    have HSnoc : Hid ((rowsV bits lens all (q + 1)).map (pickT ts) = (rowsV bits lens all q).map (pickT ts) ++ [row]) := hide (by rw [rowsV_succ, List.map_append, hrow]; rfl)
                    have HLi := hide hli
                    have hws := HFq.out.size
                    have b1 : (q + 1) * 24 ≤ 140737488355328 := by omega
                    have b2 : q + 1 ≤ maxLen := by unfold maxLen; omega
                    clear hmem h64 hrg hrow hli
                    go_wp2_with (first
                      | (go_at_call 27; refine HRw.out.mono ?_; rintro en w3 ⟨v2, rfl, hown, hfr⟩; rw [← HLi.out] at hown; obtain ⟨A2', c2', rfl, q1, q2, _⟩ := hown.form; have HO3 := hide hown; have HF3 := hide hfr; have HF03 : Hid (Fr No w8 w3) := hide (HFq.out.tr hfr); have HV3 := hide (HVq.out.fr0 hfr); have HOut := hide ((HOq.out.fr0 hfr).fr0 ((Fr.refl No w3).alloc (.cells #[.slice A2' li c2'] 45))); have hz3 : w8.heap.size ≤ (w3.alloc (.cells #[.slice A2' li c2'] 45)).heap.size := (HF03.out.alloc _).size; unfold maxLen at q2; clear hown hfr)
                      | (at_builtin; refine wpList_append_gen _ rfl (.tmp 68) (.tmp 72) 38 38 rfl w8.heap.size 45 i1 (.slice none 0 0) 1 24 Try.underlying38 hi1 hz1 hsz1 hby1 rfl u8 q _ rfl HOut.out _ 1 [.slice A2' li c2'] rfl (src_rowT w3 A2' li c2') b1 b2 hz3 ?_; intro v5 w5 hown hfr hat; have HO5 := hide hown; have HFa := hide hfr; clear hown hfr hat))
                    go_roundw
                    case rel =>
                      have hV3 := HV3.out.fr0 ((Fr.refl No w3).alloc (.cells #[.slice A2' li c2'] 45))
                      have hO3 := HO3.out.fr0 ((Fr.refl No w3).alloc (.cells #[.slice A2' li c2'] 45))
                      refine ⟨q + 1, vals ++ [.slice A2' li c2'], by omega, by go_num, hide ((HF03.out.alloc _).own HFa.out (fun g hg => .inl (HOut.out.lt g hg).1)), HO5, hide ?_⟩
                      rw [HSnoc.out]
                      refine ValsT.snoc (w0 := wq) HVq.out ?_ ?_ hws
                      · exact hV3.fr HFa.out (fun j v hv i hi e => by
                          obtain ⟨bs, _, ho⟩ := hV3.get hv
                          exact ho.apart HOut.out (by decide) i hi e)
                      · rw [← HLi.out]
                        exact hO3.fr HFa.out (fun i hi e => hO3.apart HOut.out (by decide) i hi e)
                    case measure => simp [intOf]; omega
                  · obtain rfl : q = n1 := by omega
                    have hrt : (rowsV bits lens all q).map (pickT ts) = rdT bs := by rw [HRows.out, rdT, HRT.out, HTf.out]
                    have hrl : (rdT bs).length = q := by rw [← hrt]; simp [rowsV]
                    rw [hrt] at HVq
                    obtain ⟨A4, c4, rfl, q1, q2, _, q3, _⟩ := HOq.out.form
                    have HTx := hide (texts12_any A4 q c4 wq.heap.size (rdT bs) wq hrl q1 q2 (Nat.le_refl _) (HVq.out.isl q3))
                    have HFq2 := hide (HFz.out.tr HFq.out)
                    obtain ⟨ks, hks⟩ : ∃ x, x = keptT (rdT bs) := ⟨_, rfl⟩
                    obtain ⟨m5, hm5⟩ : ∃ x, x = ks.length := ⟨_, rfl⟩
                    rw [← hks] at HTx
                    have HKs := hide hks
                    have HM5 := hide hm5
                    unfold maxLen at q2
                    clear hrt hrl q3 hks hm5 hlt
                    go_wp2_with (fail)
                    refine HTx.out.mono ?_
                    rintro en w4 ⟨v5, rfl, hob, hf⟩
                    rw [← HM5.out] at hob
                    obtain ⟨A5, c5, rfl, x5, x6, _⟩ := hob.form
                    have HF4 := hide (HFq2.out.tr hf)
                    have HF84 := hide (HFq.out.tr hf)
                    have HEq := hide (sleq_any A5 A m5 c5 m c w4.heap.size B ks bs w4 HM5.out.symm HL.out x5 x6 hn hc' hob.rd (HR.out.fr0 HF4.out))
                    unfold maxLen at x6
                    clear hf hob HTx
                    go_wp2_with (fail)
                    refine HEq.out.mono ?_
                    rintro en w5 ⟨rfl, nq, hw5⟩
                    have hf5 : Fr No w4 w5 := by rw [hw5]; exact (Fr.refl No w4).drewN nq
                    have HF5 := hide (HF4.out.tr hf5)
                    have HCol5 := hide (HCol.out.fr0 (HF84.out.tr hf5))
                    have kP5 := (HF84.out.tr hf5).cell HKP.out (fun h => h)
                    clear hw5 hf5 HEq kPq
                    by_cases he : ks = bs
                    · have d0 : decide (ks = bs) = true := decide_eq_true he
                      have HE := hide he
                      rw [d0]
                      clear he d0
                      go_wp2
                      go_ret2
                      refine ⟨HF5.out, .inr ⟨⟨by rw [HTf.out], by rw [HRT.out]; exact HOk.out, fun x hx => ?_, by rw [← HKs.out]; exact HE.out⟩, G, bits, lens, all, rfl, ?_, ?_⟩⟩
                      · rw [HRT.out, ← HAll.out] at hx
                        rw [HTf.out, ← HKl.out]
                        exact HGood.out x hx
                      · rw [HRT.out, ← HN9.out, HTf.out]
                        exact HCol5.out
                      · rw [HRT.out, ← HN9.out]
                        exact HRows.out
                    · have d0 : decide (ks = bs) = false := decide_eq_false he
                      have HE := hide he
                      rw [d0]
                      clear he d0
                      go_wp2
                      go_ret2
                      exact ⟨HF5.out, .inl ⟨fun h => HE.out (by rw [HKs.out]; exact h.2.2.2), rfl⟩⟩
              · have HNo : Hid (¬ accT bs) := hide (fun h => by
                  obtain ⟨x, hx, hb⟩ := hex
                  have h3 := h.2.2.1 x (by rw [HRT.out, ← HAll.out]; exact hx)
                  rw [HTf.out, ← HKl.out] at h3
                  exact h3 hb)
                clear hex
                go_wp2
                go_ret2
                exact ⟨HFz.out, .inl ⟨HNo.out, rfl⟩⟩
        · have hne : (e != 0) = true := by simpa using he
          have HNo : Hid (¬ accT bs) := hide (fun h => he (by have h1 := h.1; rw [HTf.out] at h1; exact h1))
          clear he
          go_wp2_with (go_at_call 54; refine HEr.out.mono ?_; rintro en w' ⟨rfl, rfl⟩)
          go_ret2
          exact ⟨HF.out, .inl ⟨HNo.out, rfl⟩⟩
end Go.Proofs.Ytnjcncidlhllmaa
