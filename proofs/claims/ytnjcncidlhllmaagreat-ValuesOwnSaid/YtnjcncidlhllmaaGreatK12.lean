/- Several texts in one: TxC, TxB, TxOP, OffT. -/
import Derived.Test.YtnjcncidlhllmaaGreatK11
namespace Go.Proofs.YtnjcncidlhllmaaGreat
set_option linter.unusedVariables false
set_option linter.unusedSimpArgs false
open Go.RowKit

theorem Tryz.infoInT : (Tryz.prog.info? 3).map (fun i => (i.zero, i.size, i.bytes)) = some (some (.int .i64 0), 1, 8) := by kernel_rfl
structure ColT (w : World) (base G : Nat) (bits : List UInt8) (lens all : List Int) (n : Nat) (ts : List Tx) : Prop where
  col : ColO w base G bits lens all n
  terms : ∃ A c, w.cell? ⟨G, 2, none⟩ = some (.slice A ts.length c) ∧ Own w base 9 1 (.slice A ts.length c) ts.length (svs ts)
theorem ColT.fr {S : Nat → Prop} {w w' : World} {base G n : Nat} {bits : List UInt8} {lens all : List Int} {ts : List Tx} (h : ColT w base G bits lens all n ts) (f : Fr S w w') (hS : ∀ k, base ≤ k → ¬ S k) : ColT w' base G bits lens all n ts := by
  obtain ⟨A, c, h1, h2⟩ := h.terms
  exact ⟨h.col.fr f hS, A, c, f.cell h1 (hS _ h.col.low), h2.fr f (fun k hk => hS k (h2.lt k hk).1)⟩
theorem ColT.fr0 {w w' : World} {base G n : Nat} {bits : List UInt8} {lens all : List Int} {ts : List Tx} (h : ColT w base G bits lens all n ts) (f : Fr No w w') : ColT w' base G bits lens all n ts := h.fr f (fun _ _ h => h)
section
variable {w : World} {base G n : Nat} {bits : List UInt8} {lens all : List Int} {ts : List Tx}
set_option maxRecDepth 100000 in
set_option maxHeartbeats 400000 in
theorem txLen_any (h : ColT w base G bits lens all n ts) :
    Calls Tryz.prog 17 #[.pointer (some ⟨G, 0, none⟩)] w (Ret (.int .i64 (n : Nat)) w) := by
  have HL := hide (colLen_any h.col.m)
  clear h
  go_enter Tryz.func17, Tryz.ntmps17
  go_wp2_with (go_at_call 56; refine HL.out.mono ?_; rintro en w' ⟨rfl, rfl⟩)
  go_ret
  exact ⟨rfl, rfl⟩
set_option maxRecDepth 100000 in
set_option maxHeartbeats 400000 in
theorem txTerms_any (h : ColT w base G bits lens all n ts) :
    Calls Tryz.prog 26 #[.pointer (some ⟨G, 0, none⟩)] w (Ret (.int .i64 (ts.length : Nat)) w) := by
  obtain ⟨A, c, h1, h2⟩ := h.terms
  obtain ⟨q1, q2⟩ := h2.le.2
  unfold maxLen at q2
  clear h h2
  go_enter Tryz.func26, Tryz.ntmps26
  go_wp2
  go_ret
  exact ⟨rfl, rfl⟩
set_option maxRecDepth 100000 in
set_option maxHeartbeats 400000 in
theorem term_out (h : ColT w base G bits lens all n ts) (i : Int) (hi : i < 0 ∨ (ts.length : Int) ≤ i) :
    Calls Tryz.prog 27 #[.pointer (some ⟨G, 0, none⟩), .int .i64 i] w (Ret (.string ⟨#[]⟩) w) := by
  have HT := hide (txTerms_any h)
  clear h
  generalize ts.length = tk at HT hi
  by_cases h0 : i < 0
  · have d0 : decide (i < 0) = true := decide_eq_true h0
    clear hi h0
    go_enter Tryz.func27, Tryz.ntmps27
    go_wp2_with (go_at_call 26; refine HT.out.mono ?_; rintro en w' ⟨rfl, rfl⟩)
    go_ret
    exact ⟨rfl, rfl⟩
  · have d0 : decide (i < 0) = false := decide_eq_false h0
    have h1 : (tk : Int) ≤ i := by omega
    have d1 : decide ((tk : Int) ≤ i) = true := decide_eq_true h1
    clear hi h0 h1
    go_enter Tryz.func27, Tryz.ntmps27
    go_wp2_with (go_at_call 26; refine HT.out.mono ?_; rintro en w' ⟨rfl, rfl⟩)
    go_ret
    exact ⟨rfl, rfl⟩
set_option maxRecDepth 100000 in
set_option maxHeartbeats 400000 in
theorem term_in (h : ColT w base G bits lens all n ts) {i : Nat} (hi : i < ts.length) :
    Calls Tryz.prog 27 #[.pointer (some ⟨G, 0, none⟩), .int .i64 (i : Nat)] w (Ret (sv (ts.getD i [])) w) := by
  have HT := hide (txTerms_any h)
  obtain ⟨A, c, h1, h2⟩ := h.terms
  obtain ⟨q1, q2⟩ := h2.le.2
  obtain ⟨ad, hA, _, hcell⟩ := h2.rd i (sv (ts.getD i [])) (svs_get hi)
  subst hA
  unfold sv at hcell ⊢
  generalize (ByteArray.mk (ts.getD i []).toArray) = X at hcell ⊢
  unfold maxLen at q2
  clear h h2
  generalize ts.length = tk at HT hi h1 q1
  go_enter Tryz.func27, Tryz.ntmps27
  go_wp2_with (go_at_call 26; refine HT.out.mono ?_; rintro en w' ⟨rfl, rfl⟩)
  go_ret
  exact ⟨rfl, rfl⟩
set_option maxRecDepth 100000 in
set_option maxHeartbeats 400000 in
theorem find_any (h : ColT w base G bits lens all n ts) (hts : ltT ts) (hb : ts.length < 4611686018427387904) (t : Tx) :
    Calls Tryz.prog 24 #[.pointer (some ⟨G, 0, none⟩), .string ⟨t.toArray⟩] w (fun en w' => en = .returned (.tuple #[.int .i64 (if t ∈ ts then ordT ts t else 0 : Nat), .bool (decide (t ∈ ts))]) ∧ ∃ q, w' = w.drewN q) := by
  obtain ⟨A, c, h1, h2⟩ := h.terms
  obtain ⟨q1, q2⟩ := h2.le.2
  have HS := hide (searchT_any base ts.length c A ts t w h2 hb hts)
  have HOl := hide (ordT_le ts t)
  obtain ⟨tk, htk⟩ : ∃ x, x = ts.length := ⟨_, rfl⟩
  rw [← htk] at HS h1 q1 hb HOl
  obtain ⟨o, ho⟩ : ∃ x, x = ordT ts t := ⟨_, rfl⟩
  rw [← ho] at HS HOl ⊢
  have hob : o ≤ tk := HOl.out
  unfold maxLen at q2
  clear h h2 htk ho
  by_cases hm : t ∈ ts
  · rw [if_pos hm]
    rw [decide_eq_true hm] at HS ⊢
    clear hm
    generalize ByteArray.mk t.toArray = T at HS ⊢
    go_enter Tryz.func24, Tryz.ntmps24
    go_wp2_with (go_at_call 46; refine HS.out.mono ?_; rintro en w2 ⟨rfl, nq, hw2⟩; have HW := hide hw2; clear hw2)
    go_ret2
    exact ⟨rfl, nq, HW.out⟩
  · rw [if_neg hm]
    rw [decide_eq_false hm] at HS ⊢
    clear hm
    generalize ByteArray.mk t.toArray = T at HS ⊢
    go_enter Tryz.func24, Tryz.ntmps24
    go_wp2_with (go_at_call 46; refine HS.out.mono ?_; rintro en w2 ⟨rfl, nq, hw2⟩; have HW := hide hw2; clear hw2)
    go_ret2
    exact ⟨rfl, nq, HW.out⟩
/-- a row of ints of the call's own. -/
def GivesI (w : World) (xs : List Int) (en : Ending) (w' : World) : Prop := ∃ v, en = .returned v ∧ Own w' w.heap.size 3 1 v xs.length (iz .i64 xs) ∧ Fr No w w'
set_option maxRecDepth 100000 in
set_option maxHeartbeats 400000 in
theorem ords_out (h : ColT w base G bits lens all n ts) (i : Int) (hi : i < 0 ∨ (n : Int) ≤ i) :
    Calls Tryz.prog 19 #[.pointer (some ⟨G, 0, none⟩), .int .i64 i] w (Ret (.slice none 0 0) w) := by
  have HL := hide (colRow_out h.col.m i hi)
  clear h hi
  go_enter Tryz.func19, Tryz.ntmps19
  go_wp2_with (go_at_call 58; refine HL.out.mono ?_; rintro en w' ⟨rfl, rfl⟩)
  go_loopw [5, 16] (fun v i wr => v = .slice none 0 0 ∧ i = .int .i64 0 ∧ wr = w) (fun _ _ _ => 0)
  case atStart => exact ⟨by go_num, by go_num, rfl⟩
  case round =>
    obtain ⟨rfl, rfl, rfl⟩ := hrel
    go_wp2
    go_ret
    exact ⟨rfl, rfl⟩
set_option maxRecDepth 100000 in
set_option maxHeartbeats 1000000 in
theorem ords_in (h : ColT w base G bits lens all n ts) {i : Nat} (hi : i < n) (hn : n ≤ 16384) (hl : (rowV bits lens all i).length ≤ 64) :
    Calls Tryz.prog 19 #[.pointer (some ⟨G, 0, none⟩), .int .i64 (i : Nat)] w (GivesI w (rowV bits lens all i)) := by
  obtain ⟨i2, hi2, hz2, hsz2, hby2⟩ := info_parts Tryz.infoInT
  have HL := hide (colRow_in h.col.m hi hn)
  obtain ⟨l, hl'⟩ : ∃ x, x = rowV bits lens all i := ⟨_, rfl⟩
  rw [← hl'] at HL hl ⊢
  obtain ⟨li, hli⟩ : ∃ x, x = l.length := ⟨_, rfl⟩
  rw [← hli] at hl
  have HLi := hide hli
  clear h hi hl' hli
  go_enter Tryz.func19, Tryz.ntmps19
  go_wp2_with (go_at_call 58; refine HL.out.mono ?_; rintro en w1 ⟨A, c, rfl, q1, q2, q3, nq, hw⟩; rw [← HLi.out] at q1 ⊢; have HF1 : Hid (Fr No w w1) := hide (by rw [hw]; exact (Fr.refl No w).drewN nq); have HR := hide q3; unfold maxLen at q2; clear hw q3)
  go_loopw [5, 16] (fun v i wr => ∃ (k : Nat), k ≤ li ∧ i = .int .i64 (k : Nat) ∧ Hid (Fr No w1 wr) ∧ Hid (Own wr w1.heap.size 3 1 v k (iz .i64 (l.take k)))) (fun _ i _ => li - (intOf i).toNat)
  case atStart => exact ⟨0, by omega, by go_num, hide (Fr.refl _ _), hide (by rw [List.take_zero]; exact Own.nil _ _ _ _)⟩
  case round =>
    obtain ⟨k, hk, rfl, HF, HO⟩ := hrel
    by_cases hlt : k < li
    · have hk1 : k < l.length := by rw [← HLi.out]; exact hlt
      obtain ⟨ad, hA, _, hcell⟩ := (HR.out.fr0 (HF1.out.tr HF.out)).intAt hk1
      subst hA
      have htk : l.take (k + 1) = l.take k ++ [l.getD k 0] := (take_one hk1).1
      obtain ⟨x, hx⟩ : ∃ x, x = l.getD k 0 := ⟨_, rfl⟩
      rw [← hx] at hcell htk
      have HTk := hide htk
      have HOa := hide (HO.out.fr0 ((Fr.refl No wr).alloc (.cells #[.int .i64 x] 3)))
      have HS := hide (Src.one (P := Tryz.prog) wr (e := 3) Tryz.underlying45 (.int .i64 x) rfl)
      have hz3 : w1.heap.size ≤ (wr.alloc (.cells #[.int .i64 x] 3)).heap.size := (HF.out.alloc _).size
      have b1 : (k + 1) * 8 ≤ 140737488355328 := by omega
      have b2 : k + 1 ≤ maxLen := by unfold maxLen; omega
      clear hk1 htk hx
      go_wp2_with (at_builtin; refine wpList_append_gen _ rfl (.tmp 20) (.tmp 22) 45 45 rfl w1.heap.size 3 i2 (.int .i64 0) 1 8 Tryz.underlying45 hi2 hz2 hsz2 hby2 rfl u5 k _ rfl HOa.out _ 1 [.int .i64 x] rfl HS.out b1 b2 hz3 ?_; intro v6 w6 hown hfr hat; have HO6 := hide hown; have HF6 := hide ((HF.out.alloc _).own hfr (fun g hg => .inl (HOa.out.lt g hg).1)); clear hown hfr hat)
      go_roundw
      case rel => exact ⟨k + 1, by omega, by go_num, HF6, hide (by rw [HTk.out, iz_append]; exact HO6.out)⟩
      case measure => simp [intOf]; omega
    · obtain rfl : k = li := by omega
      have hall : l.take k = l := List.take_of_length_le (by rw [HLi.out]; exact Nat.le_refl _)
      rw [hall] at HO
      obtain ⟨A4, c4, rfl, q3, q4, -⟩ := HO.out.form
      unfold maxLen at q4
      clear hall
      go_wp2
      go_ret
      exact ⟨_, rfl, by rw [← HLi.out]; exact HO.out.lower HF1.out.size, HF1.out.tr HF.out⟩
/-- the texts of a row of numbers. -/
def pickT (ts : List Tx) (l : List Int) : List Tx := l.map (fun k => ts.getD k.toNat [])
set_option maxRecDepth 100000 in
set_option maxHeartbeats 400000 in
theorem txRow_out (h : ColT w base G bits lens all n ts) (i : Int) (hi : i < 0 ∨ (n : Int) ≤ i) :
    Calls Tryz.prog 18 #[.pointer (some ⟨G, 0, none⟩), .int .i64 i] w (Ret (.slice none 0 0) w) := by
  have HL := hide (ords_out h i hi)
  clear h hi
  go_enter Tryz.func18, Tryz.ntmps18
  go_wp2_with (go_at_call 19; refine HL.out.mono ?_; rintro en w' ⟨rfl, rfl⟩)
  go_loopw [5, 12] (fun v i wr => v = .slice none 0 0 ∧ i = .int .i64 0 ∧ wr = w) (fun _ _ _ => 0)
  case atStart => exact ⟨by go_num, by go_num, rfl⟩
  case round =>
    obtain ⟨rfl, rfl, rfl⟩ := hrel
    go_wp2
    go_ret
    exact ⟨rfl, rfl⟩
set_option maxRecDepth 100000 in
set_option maxHeartbeats 1000000 in
theorem txRow_in (h : ColT w base G bits lens all n ts) {i : Nat} (hi : i < n) (hn : n ≤ 16384) (hl : (rowV bits lens all i).length ≤ 64) (hr : ∀ x ∈ rowV bits lens all i, 0 ≤ x ∧ x < (ts.length : Int)) :
    Calls Tryz.prog 18 #[.pointer (some ⟨G, 0, none⟩), .int .i64 (i : Nat)] w (GivesT w (pickT ts (rowV bits lens all i))) := by
  obtain ⟨i2, hi2, hz2, hsz2, hby2⟩ := info_parts Tryz.infoS
  have HL := hide (ords_in h hi hn hl)
  obtain ⟨l, hl'⟩ : ∃ x, x = rowV bits lens all i := ⟨_, rfl⟩
  rw [← hl'] at HL hl hr ⊢
  obtain ⟨li, hli⟩ : ∃ x, x = l.length := ⟨_, rfl⟩
  rw [← hli] at hl
  have HLi := hide hli
  obtain ⟨At, ct, h1, h2⟩ := h.terms
  obtain ⟨y1, y2⟩ := h2.le.2
  have HTs := hide h2.rd
  obtain ⟨tk, htk⟩ : ∃ x, x = ts.length := ⟨_, rfl⟩
  rw [← htk] at h1 y1 hr
  have HTk := hide htk
  have HRg := hide hr
  have HT1 := hide h1
  have HPl : Hid ((pickT ts l).length = li) := hide (by rw [pickT, List.length_map, hli])
  unfold maxLen at y2
  clear h hi hl' hli h1 h2 htk hr
  go_enter Tryz.func18, Tryz.ntmps18
  go_wp2_with (go_at_call 19; refine HL.out.mono ?_; rintro en w1 ⟨v, rfl, hown, hf⟩; rw [← HLi.out] at hown; obtain ⟨A, c, rfl, q1, q2, -⟩ := hown.form; have HF1 := hide hf; have HO1 := hide hown; unfold maxLen at q2; clear hf hown)
  go_loopw [5, 12] (fun v i wr => ∃ (k : Nat), k ≤ li ∧ i = .int .i64 (k : Nat) ∧ Hid (Fr No w1 wr) ∧ Hid (Own wr w1.heap.size 9 1 v k (svs (pickT ts (l.take k))))) (fun _ i _ => li - (intOf i).toNat)
  case atStart => exact ⟨0, by omega, by go_num, hide (Fr.refl _ _), hide (by rw [List.take_zero]; exact Own.nil _ _ _ _)⟩
  case round =>
    obtain ⟨k, hk, rfl, HF, HO⟩ := hrel
    by_cases hlt : k < li
    · have hk1 : k < l.length := by rw [← HLi.out]; exact hlt
      obtain ⟨ad, hA, _, hcell⟩ := (HO1.out.fr0 HF.out).rd.intAt hk1
      subst hA
      have htk : l.take (k + 1) = l.take k ++ [l.getD k 0] := (take_one hk1).1
      have hrg := HRg.out (l.getD k 0) (by rw [List.getD, List.getElem?_eq_getElem hk1]; exact List.getElem_mem hk1)
      obtain ⟨x, hx⟩ : ∃ x, x = l.getD k 0 := ⟨_, rfl⟩
      rw [← hx] at hcell htk hrg
      obtain ⟨xn, rfl⟩ : ∃ m : Nat, x = (m : Int) := ⟨x.toNat, by omega⟩
      have hxn : xn < tk := by omega
      have hfw := HF1.out.tr HF.out
      obtain ⟨adt, hAt, _, hct0⟩ := HTs.out xn (sv (ts.getD xn [])) (svs_get (by rw [← HTk.out]; exact hxn))
      subst hAt
      have hct := hfw.cell hct0 (fun h => h)
      have hcG := hfw.cell HT1.out (fun h => h)
      have hpk : pickT ts (l.take (k + 1)) = pickT ts (l.take k) ++ [ts.getD xn []] := by rw [htk]; simp [pickT]
      have HPk := hide hpk
      unfold sv at hct
      obtain ⟨t, ht⟩ : ∃ t, t = ts.getD xn [] := ⟨_, rfl⟩
      rw [← ht] at hct HPk
      obtain ⟨X, hX⟩ : ∃ X : ByteArray, X = ⟨t.toArray⟩ := ⟨_, rfl⟩
      rw [← hX] at hct
      have HX : Hid (Value.string X = sv t) := hide (by rw [hX]; rfl)
      have HOa := hide (HO.out.fr0 ((Fr.refl No wr).alloc (.cells #[.string X] 9)))
      have HS := hide (Src.one (P := Tryz.prog) wr (e := 9) Tryz.underlying43 (.string X) rfl)
      have hz3 : w1.heap.size ≤ (wr.alloc (.cells #[.string X] 9)).heap.size := (HF.out.alloc _).size
      have b1 : (k + 1) * 16 ≤ 140737488355328 := by omega
      have b2 : k + 1 ≤ maxLen := by unfold maxLen; omega
      clear hk1 htk hx hrg hfw hct0 hpk ht hX
      go_wp2_with (at_builtin; refine wpList_append_gen _ rfl (.tmp 16) (.tmp 24) 43 43 rfl w1.heap.size 9 i2 (.string ⟨#[]⟩) 1 16 Tryz.underlying43 hi2 hz2 hsz2 hby2 rfl u5 k _ rfl HOa.out _ 1 [.string X] rfl HS.out b1 b2 hz3 ?_; intro v6 w6 hown hfr hat; have HO6 := hide hown; have HF6 := hide ((HF.out.alloc _).own hfr (fun g hg => .inl (HOa.out.lt g hg).1)); clear hown hfr hat)
      go_roundw
      case rel => exact ⟨k + 1, by omega, by go_num, HF6, hide (by rw [HPk.out, svs_snoc, ← HX.out]; exact HO6.out)⟩
      case measure => simp [intOf]; omega
    · obtain rfl : k = li := by omega
      have hall : l.take k = l := List.take_of_length_le (by rw [HLi.out]; exact Nat.le_refl _)
      rw [hall] at HO
      obtain ⟨A4, c4, rfl, q3, q4, -⟩ := HO.out.form
      unfold maxLen at q4
      clear hall
      go_wp2
      go_ret
      exact ⟨_, rfl, by rw [HPl.out]; exact HO.out.lower HF1.out.size, HF1.out.tr HF.out⟩
end
end Go.Proofs.YtnjcncidlhllmaaGreat
namespace Go.Proofs.YtnjcncidlhllmaaGreat
set_option linter.unusedVariables false
set_option linter.unusedSimpArgs false
open Go.RowKit

def badK (tk : Nat) (x : Int) : Prop := x < 0 ∨ (tk : Int) ≤ x
instance (tk : Nat) (x : Int) : Decidable (badK tk x) := inferInstanceAs (Decidable (_ ∨ _))
section
variable {w : World} {P G tk ct : Nat} {At : Option Addr}
set_option maxRecDepth 100000 in
set_option maxHeartbeats 400000 in
theorem bad1_any (h1 : w.cell? ⟨P, 0, none⟩ = some (.pointer (some ⟨G, 0, none⟩))) (h2 : w.cell? ⟨G, 2, none⟩ = some (.slice At tk ct)) (hb : tk ≤ 4611686018427387903) (x : Int) (hx : -9223372036854775808 ≤ x ∧ x ≤ 9223372036854775807) :
    Calls Tryz.prog 55 #[.int .i64 x, .pointer (some ⟨P, 0, none⟩)] w (Ret (.bool (decide (badK tk x))) w) := by
  by_cases h0 : x < 0
  · have hd : decide (badK tk x) = true := decide_eq_true (.inl h0)
    have d0 : decide (x < 0) = true := decide_eq_true h0
    rw [hd]
    clear h0 hd
    go_enter Tryz.func55, Tryz.ntmps55
    go_wp2
    go_ret
    exact ⟨rfl, rfl⟩
  · have hd : decide (badK tk x) = decide ((tk : Int) ≤ x) := decide_eq_decide.2 ⟨fun h => h.elim (fun h => absurd h h0) id, .inr⟩
    have d0 : decide (x < 0) = false := decide_eq_false h0
    rw [hd]
    clear h0 hd
    go_enter Tryz.func55, Tryz.ntmps55
    go_wp2
    go_ret
    exact ⟨rfl, rfl⟩
/-- the first bad number's place, or -1. -/
def IxPost (w : World) (tk : Nat) (l : List Int) (en : Ending) (w' : World) : Prop := w' = w ∧ ((en = .returned (.int .i64 (-1)) ∧ ∀ x ∈ l, ¬ badK tk x) ∨ (∃ k : Nat, k ≤ 1048576 ∧ en = .returned (.int .i64 (k : Nat)) ∧ ∃ x ∈ l, badK tk x))
set_option maxRecDepth 100000 in
set_option maxHeartbeats 1000000 in
theorem indexBad_any (h1 : w.cell? ⟨P, 0, none⟩ = some (.pointer (some ⟨G, 0, none⟩))) (h2 : w.cell? ⟨G, 2, none⟩ = some (.slice At tk ct)) (hb : tk ≤ 4611686018427387903) (A : Option Addr) (n c B : Nat) (l : List Int) (hl : l.length = n) (hi : InI l) (hn : n ≤ c) (hc : c ≤ maxLen) (hn2 : n ≤ 1048576) (hr : Rd w B A (iz .i64 l)) :
    Calls Tryz.prog 85 #[.slice A n c, .func (.func 55) #[] #[.pointer (some ⟨P, 0, none⟩)]] w (IxPost w tk l) := by
  have HB := hide (fun x hx => bad1_any h1 h2 hb x hx)
  have HL := hide hl
  have HR := hide hr
  have HI := hide hi
  unfold maxLen at hc
  clear h1 h2 hl hr hi
  go_enter Tryz.func85, Tryz.ntmps85
  go_wp2
  go_loopw [8] (fun i wr => ∃ (k : Nat), k ≤ n ∧ i = .int .i64 (k : Nat) ∧ wr = w ∧ Hid (∀ x ∈ l.take k, ¬ badK tk x)) (fun i _ => n - (intOf i).toNat)
  case atStart => exact ⟨0, by omega, by go_num, rfl, hide (fun x hx => by rw [List.take_zero] at hx; cases hx)⟩
  case round =>
    obtain ⟨k, hk, rfl, rfl, HS⟩ := hrel
    by_cases hlt : k < n
    · have hk1 : k < l.length := by rw [HL.out]; exact hlt
      obtain ⟨ad, hA, _, hcell⟩ := HR.out.intAt hk1
      subst hA
      have htk : l.take (k + 1) = l.take k ++ [l.getD k 0] := (take_one hk1).1
      have hmem : l.getD k 0 ∈ l := by rw [List.getD, List.getElem?_eq_getElem hk1]; exact List.getElem_mem hk1
      have hin := HI.out _ hmem
      obtain ⟨x, hx⟩ : ∃ x, x = l.getD k 0 := ⟨_, rfl⟩
      rw [← hx] at hcell htk hmem hin
      have HBx := hide (HB.out x hin)
      have HTk := hide htk
      have HM := hide hmem
      clear hk1 hx htk hmem
      by_cases hbad : badK tk x
      · rw [decide_eq_true hbad] at HBx
        have HBd := hide hbad
        clear hbad
        go_wp2_with (go_at_call 55; refine HBx.out.mono ?_; rintro en w' ⟨rfl, rfl⟩)
        go_ret
        exact ⟨rfl, .inr ⟨k, by omega, rfl, x, HM.out, HBd.out⟩⟩
      · rw [decide_eq_false hbad] at HBx
        have HS' : Hid (∀ y ∈ l.take (k + 1), ¬ badK tk y) := hide (fun y hy => by
          rw [HTk.out] at hy
          rcases List.mem_append.1 hy with hy | hy
          · exact HS.out y hy
          · rw [List.mem_singleton.1 hy]; exact hbad)
        clear hbad
        go_wp2_with (go_at_call 55; refine HBx.out.mono ?_; rintro en w' ⟨rfl, rfl⟩)
        go_roundw
        case rel => exact ⟨k + 1, by omega, by go_num, trivial, HS'⟩
        case measure => simp [intOf]; omega
    · obtain rfl : k = n := by omega
      have htk : l.take k = l := List.take_of_length_le (by rw [HL.out]; exact Nat.le_refl _)
      rw [htk] at HS
      clear htk
      go_wp2
      go_ret
      exact ⟨rfl, .inl ⟨rfl, HS.out⟩⟩
set_option maxRecDepth 100000 in
set_option maxHeartbeats 400000 in
theorem containsBad_any (h1 : w.cell? ⟨P, 0, none⟩ = some (.pointer (some ⟨G, 0, none⟩))) (h2 : w.cell? ⟨G, 2, none⟩ = some (.slice At tk ct)) (hb : tk ≤ 4611686018427387903) (A : Option Addr) (n c B : Nat) (l : List Int) (hl : l.length = n) (hi : InI l) (hn : n ≤ c) (hc : c ≤ maxLen) (hn2 : n ≤ 1048576) (hr : Rd w B A (iz .i64 l)) :
    Calls Tryz.prog 54 #[.slice A n c, .func (.func 55) #[] #[.pointer (some ⟨P, 0, none⟩)]] w (fun en w' => w' = w ∧ ((en = .returned (.bool false) ∧ ∀ x ∈ l, ¬ badK tk x) ∨ (en = .returned (.bool true) ∧ ∃ x ∈ l, badK tk x))) := by
  have HX := hide (indexBad_any h1 h2 hb A n c B l hl hi hn hc hn2 hr)
  unfold maxLen at hc
  clear h1 h2 hl hi hr
  go_enter Tryz.func54, Tryz.ntmps54
  go_wp2_with (fail)
  refine HX.out.mono ?_
  rintro en w' ⟨rfl, ⟨rfl, hall⟩ | ⟨k, hk, rfl, hex⟩⟩
  · have HA := hide hall
    clear hall HX
    go_wp2
    go_ret
    exact ⟨rfl, .inl ⟨rfl, HA.out⟩⟩
  · have HA := hide hex
    clear hex HX
    go_wp2
    go_ret
    exact ⟨rfl, .inr ⟨by simp, HA.out⟩⟩
end
end Go.Proofs.YtnjcncidlhllmaaGreat
namespace Go.Proofs.YtnjcncidlhllmaaGreat
set_option linter.unusedVariables false
set_option linter.unusedSimpArgs false
open Go.RowKit

theorem text_has {bs s : List UInt8} {a : Nat} {most : Int} (hm : (s.length : Int) ≤ most) (hs : s.length < 18446744073709551616) (h : enc s.length ++ s <+: bs.drop a) : textS bs a 0 most = (s, a + (enc s.length ++ s).length, 0) := by
  obtain ⟨r, hr⟩ := h
  have hd : dec 0 0 (bs.drop a) = some (s.length, (enc s.length).length) := by rw [← hr, List.append_assoc]; exact dec_enc _ hs _
  have hl : (bs.drop a).length = (enc s.length).length + s.length + r.length := by rw [← hr, List.length_append, List.length_append]
  have ht : textR (bs.drop a) most = some (s, (enc s.length).length + s.length) := by
    rw [textR_ok hd (by omega)]
    congr 2
    rw [← hr, List.append_assoc, List.drop_left, List.take_left]
  unfold textS
  rw [if_pos rfl, ht]
  simp
theorem text_of {bs : List UInt8} {a : Nat} {e most : Int} (h : (textS bs a e most).2.2 = 0) : e = 0 ∧ ((textS bs a e most).1.length : Int) ≤ most ∧ (textS bs a e most).1.length < 18446744073709551616 ∧ enc (textS bs a e most).1.length ++ (textS bs a e most).1 <+: bs.drop a ∧ (textS bs a e most).2.1 = a + (enc (textS bs a e most).1.length ++ (textS bs a e most).1).length := by
  by_cases he : e = 0
  · subst he
    unfold textS at h ⊢
    rw [if_pos rfl] at h ⊢
    cases hd : dec 0 0 (bs.drop a) with
    | none => rw [textR_none hd] at h; cases h
    | some x =>
      obtain ⟨u, k⟩ := x
      by_cases hm : most < 0 ∨ most < (u : Int) ∨ (bs.drop a).length - k < u
      · rw [textR_no hd hm] at h; cases h
      · rw [textR_ok hd hm]
        obtain ⟨h1, h2⟩ := dec_has hd
        have h3 := dec_le _ _ _ _ _ hd
        have hl : (((bs.drop a).drop k).take u).length = u := by rw [List.length_take, List.length_drop]; omega
        refine ⟨rfl, ?_, ?_, ?_, ?_⟩
        · show (((((bs.drop a).drop k).take u).length : Nat) : Int) ≤ most
          rw [hl]; omega
        · show (((bs.drop a).drop k).take u).length < _
          rw [hl]; exact dec_lt _ 0 0 u k (by simp) hd
        · show enc (((bs.drop a).drop k).take u).length ++ ((bs.drop a).drop k).take u <+: bs.drop a
          rw [hl, pre_app, ← h2, ← List.drop_drop]
          exact ⟨h1, List.take_prefix _ _⟩
        · show a + (k + u) = _
          rw [List.length_append, hl, ← h2]
  · exfalso
    unfold textS at h
    rw [if_neg he] at h
    exact he h

/-- n texts off bytes, as long as none fails. -/
def txsS (bs : List UInt8) : Nat → Nat → Int → List Tx × Nat × Int
  | 0, a, e => ([], a, e)
  | n + 1, a, e => if e = 0 then ((textS bs a e 256).1 :: (txsS bs n (textS bs a e 256).2.1 (textS bs a e 256).2.2).1, (txsS bs n (textS bs a e 256).2.1 (textS bs a e 256).2.2).2) else ([], a, e)
theorem txs_has {bs : List UInt8} : ∀ (l : List Tx) (a : Nat), (∀ t ∈ l, t.length ≤ 256) → txts l <+: bs.drop a → txsS bs l.length a 0 = (l, a + (txts l).length, 0)
  | [], a, _, _ => by simp [txsS, txts]
  | t :: r, a, h, hp => by
    have e : txts (t :: r) = txt t ++ txts r := by simp [txts]
    rw [e] at hp ⊢
    have ht := h t List.mem_cons_self
    obtain ⟨z, hz⟩ := hp
    have h1 : textS bs a 0 256 = (t, a + (txt t).length, 0) := text_has (by omega) (by omega) ⟨txts r ++ z, by rw [← hz, txt]; simp only [List.append_assoc]⟩
    have h2 := txs_has r (a + (txt t).length) (fun s hs => h s (List.mem_cons_of_mem _ hs)) ⟨z, by rw [← List.drop_drop, ← hz, List.append_assoc, List.drop_left]⟩
    rw [List.length_cons, txsS, if_pos rfl, h1, h2, List.length_append, Nat.add_assoc]
def hT (bs : List UInt8) : Nat × Nat × Int := sizeS bs 0 0 (bs.length : Nat)
def tT (bs : List UInt8) : List Tx × Nat × Int := txsS bs (hT bs).1 (hT bs).2.1 (hT bs).2.2
def restT (bs : List UInt8) : List UInt8 := bs.drop (tT bs).2.1
def rdT (bs : List UInt8) : RwT := (rdV (restT bs)).map (pickT (tT bs).1)
def accT (bs : List UInt8) : Prop := (tT bs).2.2 = 0 ∧ rdOk (restT bs) ∧ (∀ x ∈ (aV (restT bs)).1, ¬ badK (tT bs).1.length x) ∧ keptT (rdT bs) = bs
theorem rowsV_flat (bits : List UInt8) (lens all : List Int) : ∀ n, (rowsV bits lens all n).flatten = all.take (atV bits lens n)
  | 0 => by simp [rowsV, atV]
  | n + 1 => by
    have hm := atV_mono bits lens (i := n) (j := n + 1) (by omega)
    rw [rowsV_succ, List.flatten_append, rowsV_flat bits lens all n, List.flatten_singleton, rowV]
    obtain ⟨d, hd⟩ : ∃ d, atV bits lens (n + 1) = atV bits lens n + d := ⟨_, (Nat.add_sub_cancel' hm).symm⟩
    rw [hd, Nat.add_sub_cancel_left, List.take_add]
theorem all_flat {bs : List UInt8} (h : rdOk bs) : (rdV bs).flatten = (aV bs).1 := by
  rw [rdV, rowsV_flat, fitV h, List.take_length]
theorem pickT_ords {ts l : List Tx} (hts : ltT ts) (h : ∀ t ∈ l, t ∈ ts) : pickT ts (ordsV ts l) = setT l := by
  unfold pickT ordsV
  rw [List.map_map]
  conv => rhs; rw [← List.map_id (setT l)]
  refine List.map_congr_left fun t ht => ?_
  simp only [Function.comp, Int.toNat_natCast, id]
  exact (ordT_mem hts (h t ((setT_mem l t).1 ht))).2
theorem termsV_sets2 (rows : RwT) : termsV (rows.map setT) = termsV rows := termsV_sets rows
theorem setT_setT (l : List Tx) : setT (setT l) = setT l := setT_of_lt (setT_lt l)
theorem ordsR_sets (rows : RwT) : ordsR (rows.map setT) = ordsR rows := by
  unfold ordsR
  rw [termsV_sets2, List.map_map]
  refine List.map_congr_left fun l _ => ?_
  simp only [Function.comp, ordsV, setT_setT]
theorem okT_sets {rows : RwT} (h : okT rows) : okT (rows.map setT) := by
  refine ⟨⟨by rw [List.length_map]; exact h.1.1, fun l hl => ?_⟩, fun l hl t ht => ?_⟩
  · obtain ⟨m, hm, rfl⟩ := List.mem_map.1 hl
    exact Nat.le_trans (setT_le m) (h.1.2 m hm)
  · obtain ⟨m, hm, rfl⟩ := List.mem_map.1 hl
    exact h.2 m hm t ((setT_mem m t).1 ht)
theorem textsB_sets (rows : RwT) : textsB (rows.map setT) = textsB rows := by rw [textsB, textsB, termsV_sets2, ordsR_sets]
theorem txts_ge : ∀ l : List Tx, l.length ≤ (txts l).length
  | [] => by simp
  | t :: r => by
    have h1 := txts_ge r
    have h2 := (enc_len t.length).1
    have e : txts (t :: r) = txt t ++ txts r := by simp [txts]
    rw [e, List.length_append, List.length_cons, txt, List.length_append]
    omega
/-- what is kept is read. -/
theorem texts_parts {rows : RwT} (h : okT rows) : tT (textsB rows) = (termsV rows, (enc (termsV rows).length ++ txts (termsV rows)).length, 0) ∧ restT (textsB rows) = formV (ordsR rows) := by
  have hl := termsV_le h.1
  have h256 : ∀ t ∈ termsV rows, t.length ≤ 256 := fun t ht => by
    obtain ⟨l, hl, ht⟩ := (termsV_mem rows t).1 ht
    exact h.2 l hl t ht
  have hge := txts_ge (termsV rows)
  have e1 : hT (textsB rows) = ((termsV rows).length, 0 + (enc (termsV rows).length).length, 0) := size_has (by omega) (by rw [textsB]; simp only [List.length_append]; omega) ⟨txts (termsV rows) ++ formV (ordsR rows), by simp [textsB]⟩
  have e2 : tT (textsB rows) = (termsV rows, 0 + (enc (termsV rows).length).length + (txts (termsV rows)).length, 0) := by
    unfold tT
    rw [e1]
    exact txs_has (termsV rows) _ h256 ⟨formV (ordsR rows), by rw [Nat.zero_add, show textsB rows = enc (termsV rows).length ++ (txts (termsV rows) ++ formV (ordsR rows)) by simp [textsB], List.drop_left]⟩
  refine ⟨by rw [e2, List.length_append, Nat.zero_add], ?_⟩
  unfold restT
  rw [e2]
  dsimp only
  rw [textsB, show 0 + (enc (termsV rows).length).length + (txts (termsV rows)).length = (enc (termsV rows).length ++ txts (termsV rows)).length by rw [List.length_append]; omega, List.drop_left]
theorem rd_texts {rows : RwT} (h : okT rows) : accT (textsB rows) ∧ rdT (textsB rows) = rows.map setT ∧ rdV (restT (textsB rows)) = ordsR rows := by
  obtain ⟨e1, e2⟩ := texts_parts h
  obtain ⟨r1, r2⟩ := rd_form (ordsR_ok h.1) (ordsR_in h.1)
  have hr : rdT (textsB rows) = rows.map setT := by
    unfold rdT
    rw [e1, e2, r2, ordsR, List.map_map]
    refine List.map_congr_left fun l hl => ?_
    exact pickT_ords (termsV_lt rows) (fun t ht => (termsV_mem rows t).2 ⟨l, hl, ht⟩)
  refine ⟨⟨by rw [e1], by rw [e2]; exact r1, fun x hx => ?_, ?_⟩, hr, by rw [e2, r2]⟩
  · rw [e2] at hx
    rw [← all_flat r1, r2] at hx
    obtain ⟨l, hl, hx⟩ := List.mem_flatten.1 hx
    obtain ⟨m, hm, rfl⟩ := List.mem_map.1 hl
    obtain ⟨t, ht, rfl⟩ := List.mem_map.1 hx
    have := (ordT_mem (termsV_lt rows) ((termsV_mem rows t).2 ⟨m, hm, (setT_mem m t).1 ht⟩)).1
    rw [e1]
    unfold badK
    dsimp only
    omega
  · rw [hr, keptT, if_pos (okT_sets h), textsB_sets]
end Go.Proofs.YtnjcncidlhllmaaGreat
namespace Go.Proofs.YtnjcncidlhllmaaGreat
set_option linter.unusedVariables false
set_option linter.unusedSimpArgs false
open Go.RowKit

theorem Own.cellsT {w : World} {base e size n : Nat} {v : Value} {xs : List Value} (h : Own w base e size v n xs) {k : Nat} (hk : v.ownBlock = some k) : base ≤ k ∧ ∃ cs fz, w.heap[k]? = some (.cells cs e fz) := by
  refine ⟨(h.lt k hk).1, ?_⟩
  obtain ⟨_, A, c, rfl, _, _, hA⟩ := h
  rcases hA with ⟨rfl, _⟩ | ⟨g, cur, rfl, _, hh, _⟩
  · cases hk
  · have e : g = k := Option.some.inj hk
    subst e
    exact ⟨_, _, hh⟩
/-- a frame that writes no block of one type. -/
def Off (S : Nat → Prop) (w : World) (t : TypeId) : Prop := ∀ k cs fz, w.heap[k]? = some (.cells cs t fz) → ¬ S k
theorem Own.off {S : Nat → Prop} {w w' : World} {base e size n : Nat} {v : Value} {xs : List Value} (h : Own w base e size v n xs) (f : Fr S w w') (hS : Off S w e) : Own w' base e size v n xs :=
  h.fr f (fun k hk => by
    obtain ⟨_, cs, fz, hh⟩ := h.cellsT hk
    exact hS k cs fz hh)
theorem RD.offT {S : Nat → Prop} {w w' : World} {g : Nat} {bs : List UInt8} {a : Nat} {e : Int} (h : RD w g bs a e) (f : Fr S w w') (h1 : Off S w 108) (h2 : Off S w 5) : RD w' g bs a e := by
  obtain ⟨A, c, hh, q1, q2, q3, q4, ho⟩ := h
  exact ⟨A, c, f.blk hh (h1 _ _ _ hh), q1, q2, q3, q4, ho.off f h2⟩
theorem off_is {w : World} {g : Nat} {cs : Array Value} {t t' : TypeId} {fz : Nat × Nat} (h : w.heap[g]? = some (.cells cs t fz)) (hne : t' ≠ t) : Off (Is g) w t' := by
  intro k cs' fz' hk e
  have e : k = g := e
  subst e
  rw [h] at hk
  injection hk with hk
  injection hk with _ hk _
  exact hne hk.symm
theorem off_own {w : World} {base e size n : Nat} {v : Value} {xs : List Value} (h : Own w base e size v n xs) {t : TypeId} (hne : t ≠ e) : Off (fun k => v.ownBlock = some k) w t := by
  intro k cs fz hk hv
  obtain ⟨_, cs', fz', hh⟩ := h.cellsT hv
  rw [hh] at hk
  injection hk with hk
  injection hk with _ hk _
  exact hne hk.symm


end Go.Proofs.YtnjcncidlhllmaaGreat
