/- Several texts in one: TxC, TxB, TxOP, TeSd, PutV, PutT. -/
import Derived.Test.YtnjcncidlhllmaaGreatK13
namespace Go.Proofs.YtnjcncidlhllmaaGreat
set_option linter.unusedVariables false
set_option linter.unusedSimpArgs false
open Go.RowKit

theorem Tryz.infoInT : (Tryz.prog.info? 3).map (fun i => (i.zero, i.size, i.bytes)) = some (some (.int .i64 0), 1, 8) := by kernel_rfl
structure ColT (w : World) (base G : Nat) (bits : List UInt8) (lens all : List Int) (n : Nat) (ts : List Tx) : Prop where
  col : ColO w base G bits lens all n
  terms : ∃ A c, w.cell? ⟨G, 2, none⟩ = some (.slice A ts.length c) ∧ Own w base 9 1 (.slice A ts.length c) ts.length (svs ts)
theorem ColT.fr {S : Nat → Prop} {w w' : World} {base G n : Nat} {bits : List UInt8} {lens all : List Int} {ts : List Tx} (h : ColT w base G bits lens all n ts) (f : Fr S w w') (hS : ∀ k, base ≤ k → ¬ S k) : ColT w' base G bits lens all n ts := by
  obtain ⟨A, c, h1, h2⟩ := h.terms
  exact ⟨h.col.fr f hS, A, c, f.cell h1 (hS _ h.col.low), h2.fr f (fun k hk => hS k (h2.lt k hk).1)⟩
theorem ColT.fr0 {w w' : World} {base G n : Nat} {bits : List UInt8} {lens all : List Int} {ts : List Tx} (h : ColT w base G bits lens all n ts) (f : Fr No w w') : ColT w' base G bits lens all n ts := h.fr f (fun _ _ h => h)
section
variable {w : World} {base G n : Nat} {bits : List UInt8} {lens all : List Int} {ts : List Tx}
set_option maxRecDepth 100000 in
set_option maxHeartbeats 400000 in
theorem txLen_any (h : ColT w base G bits lens all n ts) :
    Calls Tryz.prog 17 #[.pointer (some ⟨G, 0, none⟩)] w (Ret (.int .i64 (n : Nat)) w) := by
  have HL := hide (colLen_any h.col.m)
  clear h
  go_enter Tryz.func17, Tryz.ntmps17
  go_wp2_with (go_at_call 56; refine HL.out.mono ?_; rintro en w' ⟨rfl, rfl⟩)
  go_ret
  exact ⟨rfl, rfl⟩
set_option maxRecDepth 100000 in
set_option maxHeartbeats 400000 in
theorem txTerms_any (h : ColT w base G bits lens all n ts) :
    Calls Tryz.prog 26 #[.pointer (some ⟨G, 0, none⟩)] w (Ret (.int .i64 (ts.length : Nat)) w) := by
  obtain ⟨A, c, h1, h2⟩ := h.terms
  obtain ⟨q1, q2⟩ := h2.le.2
  unfold maxLen at q2
  clear h h2
  go_enter Tryz.func26, Tryz.ntmps26
  go_wp2
  go_ret
  exact ⟨rfl, rfl⟩
set_option maxRecDepth 100000 in
set_option maxHeartbeats 400000 in
theorem term_out (h : ColT w base G bits lens all n ts) (i : Int) (hi : i < 0 ∨ (ts.length : Int) ≤ i) :
    Calls Tryz.prog 27 #[.pointer (some ⟨G, 0, none⟩), .int .i64 i] w (Ret (.string ⟨#[]⟩) w) := by
  have HT := hide (txTerms_any h)
  clear h
  generalize ts.length = tk at HT hi
  by_cases h0 : i < 0
  · have d0 : decide (i < 0) = true := decide_eq_true h0
    clear hi h0
    go_enter Tryz.func27, Tryz.ntmps27
    go_wp2_with (go_at_call 26; refine HT.out.mono ?_; rintro en w' ⟨rfl, rfl⟩)
    go_ret
    exact ⟨rfl, rfl⟩
  · have d0 : decide (i < 0) = false := decide_eq_false h0
    have h1 : (tk : Int) ≤ i := by omega
    have d1 : decide ((tk : Int) ≤ i) = true := decide_eq_true h1
    clear hi h0 h1
    go_enter Tryz.func27, Tryz.ntmps27
    go_wp2_with (go_at_call 26; refine HT.out.mono ?_; rintro en w' ⟨rfl, rfl⟩)
    go_ret
    exact ⟨rfl, rfl⟩
set_option maxRecDepth 100000 in
set_option maxHeartbeats 400000 in
theorem term_in (h : ColT w base G bits lens all n ts) {i : Nat} (hi : i < ts.length) :
    Calls Tryz.prog 27 #[.pointer (some ⟨G, 0, none⟩), .int .i64 (i : Nat)] w (Ret (sv (ts.getD i [])) w) := by
  have HT := hide (txTerms_any h)
  obtain ⟨A, c, h1, h2⟩ := h.terms
  obtain ⟨q1, q2⟩ := h2.le.2
  obtain ⟨ad, hA, _, hcell⟩ := h2.rd i (sv (ts.getD i [])) (svs_get hi)
  subst hA
  unfold sv at hcell ⊢
  generalize (ByteArray.mk (ts.getD i []).toArray) = X at hcell ⊢
  unfold maxLen at q2
  clear h h2
  generalize ts.length = tk at HT hi h1 q1
  go_enter Tryz.func27, Tryz.ntmps27
  go_wp2_with (go_at_call 26; refine HT.out.mono ?_; rintro en w' ⟨rfl, rfl⟩)
  go_ret
  exact ⟨rfl, rfl⟩
set_option maxRecDepth 100000 in
set_option maxHeartbeats 400000 in
theorem find_any (h : ColT w base G bits lens all n ts) (hts : ltT ts) (hb : ts.length < 4611686018427387904) (t : Tx) :
    Calls Tryz.prog 24 #[.pointer (some ⟨G, 0, none⟩), .string ⟨t.toArray⟩] w (fun en w' => en = .returned (.tuple #[.int .i64 (if t ∈ ts then ordT ts t else 0 : Nat), .bool (decide (t ∈ ts))]) ∧ ∃ q, w' = w.drewN q) := by
  obtain ⟨A, c, h1, h2⟩ := h.terms
  obtain ⟨q1, q2⟩ := h2.le.2
  have HS := hide (searchT_any base ts.length c A ts t w h2 hb hts)
  have HOl := hide (ordT_le ts t)
  obtain ⟨tk, htk⟩ : ∃ x, x = ts.length := ⟨_, rfl⟩
  rw [← htk] at HS h1 q1 hb HOl
  obtain ⟨o, ho⟩ : ∃ x, x = ordT ts t := ⟨_, rfl⟩
  rw [← ho] at HS HOl ⊢
  have hob : o ≤ tk := HOl.out
  unfold maxLen at q2
  clear h h2 htk ho
  by_cases hm : t ∈ ts
  · rw [if_pos hm]
    rw [decide_eq_true hm] at HS ⊢
    clear hm
    generalize ByteArray.mk t.toArray = T at HS ⊢
    go_enter Tryz.func24, Tryz.ntmps24
    go_wp2_with (go_at_call 46; refine HS.out.mono ?_; rintro en w2 ⟨rfl, nq, hw2⟩; have HW := hide hw2; clear hw2)
    go_ret2
    exact ⟨rfl, nq, HW.out⟩
  · rw [if_neg hm]
    rw [decide_eq_false hm] at HS ⊢
    clear hm
    generalize ByteArray.mk t.toArray = T at HS ⊢
    go_enter Tryz.func24, Tryz.ntmps24
    go_wp2_with (go_at_call 46; refine HS.out.mono ?_; rintro en w2 ⟨rfl, nq, hw2⟩; have HW := hide hw2; clear hw2)
    go_ret2
    exact ⟨rfl, nq, HW.out⟩
/-- a row of ints of the call's own. -/
def GivesI (w : World) (xs : List Int) (en : Ending) (w' : World) : Prop := ∃ v, en = .returned v ∧ Own w' w.heap.size 3 1 v xs.length (iz .i64 xs) ∧ Fr No w w'
set_option maxRecDepth 100000 in
set_option maxHeartbeats 400000 in
theorem ords_out (h : ColT w base G bits lens all n ts) (i : Int) (hi : i < 0 ∨ (n : Int) ≤ i) :
    Calls Tryz.prog 19 #[.pointer (some ⟨G, 0, none⟩), .int .i64 i] w (Ret (.slice none 0 0) w) := by
  have HL := hide (colRow_out h.col.m i hi)
  clear h hi
  go_enter Tryz.func19, Tryz.ntmps19
  go_wp2_with (go_at_call 58; refine HL.out.mono ?_; rintro en w' ⟨rfl, rfl⟩)
  go_loopw [5, 16] (fun v i wr => v = .slice none 0 0 ∧ i = .int .i64 0 ∧ wr = w) (fun _ _ _ => 0)
  case atStart => exact ⟨by go_num, by go_num, rfl⟩
  case round =>
    obtain ⟨rfl, rfl, rfl⟩ := hrel
    go_wp2
    go_ret
    exact ⟨rfl, rfl⟩
set_option maxRecDepth 100000 in
set_option maxHeartbeats 1000000 in
theorem ords_in (h : ColT w base G bits lens all n ts) {i : Nat} (hi : i < n) (hn : n ≤ 16384) (hl : (rowV bits lens all i).length ≤ 64) :
    Calls Tryz.prog 19 #[.pointer (some ⟨G, 0, none⟩), .int .i64 (i : Nat)] w (GivesI w (rowV bits lens all i)) := by
  obtain ⟨i2, hi2, hz2, hsz2, hby2⟩ := info_parts Tryz.infoInT
  have HL := hide (colRow_in h.col.m hi hn)
  obtain ⟨l, hl'⟩ : ∃ x, x = rowV bits lens all i := ⟨_, rfl⟩
  rw [← hl'] at HL hl ⊢
  obtain ⟨li, hli⟩ : ∃ x, x = l.length := ⟨_, rfl⟩
  rw [← hli] at hl
  have HLi := hide hli
  clear h hi hl' hli
  go_enter Tryz.func19, Tryz.ntmps19
  go_wp2_with (go_at_call 58; refine HL.out.mono ?_; rintro en w1 ⟨A, c, rfl, q1, q2, q3, nq, hw⟩; rw [← HLi.out] at q1 ⊢; have HF1 : Hid (Fr No w w1) := hide (by rw [hw]; exact (Fr.refl No w).drewN nq); have HR := hide q3; unfold maxLen at q2; clear hw q3)
  go_loopw [5, 16] (fun v i wr => ∃ (k : Nat), k ≤ li ∧ i = .int .i64 (k : Nat) ∧ Hid (Fr No w1 wr) ∧ Hid (Own wr w1.heap.size 3 1 v k (iz .i64 (l.take k)))) (fun _ i _ => li - (intOf i).toNat)
  case atStart => exact ⟨0, by omega, by go_num, hide (Fr.refl _ _), hide (by rw [List.take_zero]; exact Own.nil _ _ _ _)⟩
  case round =>
    obtain ⟨k, hk, rfl, HF, HO⟩ := hrel
    by_cases hlt : k < li
    · have hk1 : k < l.length := by rw [← HLi.out]; exact hlt
      obtain ⟨ad, hA, _, hcell⟩ := (HR.out.fr0 (HF1.out.tr HF.out)).intAt hk1
      subst hA
      have htk : l.take (k + 1) = l.take k ++ [l.getD k 0] := (take_one hk1).1
      obtain ⟨x, hx⟩ : ∃ x, x = l.getD k 0 := ⟨_, rfl⟩
      rw [← hx] at hcell htk
      have HTk := hide htk
      have HOa := hide (HO.out.fr0 ((Fr.refl No wr).alloc (.cells #[.int .i64 x] 3)))
      have HS := hide (Src.one (P := Tryz.prog) wr (e := 3) Tryz.underlying45 (.int .i64 x) rfl)
      have hz3 : w1.heap.size ≤ (wr.alloc (.cells #[.int .i64 x] 3)).heap.size := (HF.out.alloc _).size
      have b1 : (k + 1) * 8 ≤ 140737488355328 := by omega
      have b2 : k + 1 ≤ maxLen := by unfold maxLen; omega
      clear hk1 htk hx
      go_wp2_with (at_builtin; refine wpList_append_gen _ rfl (.tmp 20) (.tmp 22) 45 45 rfl w1.heap.size 3 i2 (.int .i64 0) 1 8 Tryz.underlying45 hi2 hz2 hsz2 hby2 rfl u5 k _ rfl HOa.out _ 1 [.int .i64 x] rfl HS.out b1 b2 hz3 ?_; intro v6 w6 hown hfr hat; have HO6 := hide hown; have HF6 := hide ((HF.out.alloc _).own hfr (fun g hg => .inl (HOa.out.lt g hg).1)); clear hown hfr hat)
      go_roundw
      case rel => exact ⟨k + 1, by omega, by go_num, HF6, hide (by rw [HTk.out, iz_append]; exact HO6.out)⟩
      case measure => simp [intOf]; omega
    · obtain rfl : k = li := by omega
      have hall : l.take k = l := List.take_of_length_le (by rw [HLi.out]; exact Nat.le_refl _)
      rw [hall] at HO
      obtain ⟨A4, c4, rfl, q3, q4, -⟩ := HO.out.form
      unfold maxLen at q4
      clear hall
      go_wp2
      go_ret
      exact ⟨_, rfl, by rw [← HLi.out]; exact HO.out.lower HF1.out.size, HF1.out.tr HF.out⟩
/-- the texts of a row of numbers. -/
def pickT (ts : List Tx) (l : List Int) : List Tx := l.map (fun k => ts.getD k.toNat [])
set_option maxRecDepth 100000 in
set_option maxHeartbeats 400000 in
theorem txRow_out (h : ColT w base G bits lens all n ts) (i : Int) (hi : i < 0 ∨ (n : Int) ≤ i) :
    Calls Tryz.prog 18 #[.pointer (some ⟨G, 0, none⟩), .int .i64 i] w (Ret (.slice none 0 0) w) := by
  have HL := hide (ords_out h i hi)
  clear h hi
  go_enter Tryz.func18, Tryz.ntmps18
  go_wp2_with (go_at_call 19; refine HL.out.mono ?_; rintro en w' ⟨rfl, rfl⟩)
  go_loopw [5, 12] (fun v i wr => v = .slice none 0 0 ∧ i = .int .i64 0 ∧ wr = w) (fun _ _ _ => 0)
  case atStart => exact ⟨by go_num, by go_num, rfl⟩
  case round =>
    obtain ⟨rfl, rfl, rfl⟩ := hrel
    go_wp2
    go_ret
    exact ⟨rfl, rfl⟩
set_option maxRecDepth 100000 in
set_option maxHeartbeats 1000000 in
theorem txRow_in (h : ColT w base G bits lens all n ts) {i : Nat} (hi : i < n) (hn : n ≤ 16384) (hl : (rowV bits lens all i).length ≤ 64) (hr : ∀ x ∈ rowV bits lens all i, 0 ≤ x ∧ x < (ts.length : Int)) :
    Calls Tryz.prog 18 #[.pointer (some ⟨G, 0, none⟩), .int .i64 (i : Nat)] w (GivesT w (pickT ts (rowV bits lens all i))) := by
  obtain ⟨i2, hi2, hz2, hsz2, hby2⟩ := info_parts Tryz.infoS
  have HL := hide (ords_in h hi hn hl)
  obtain ⟨l, hl'⟩ : ∃ x, x = rowV bits lens all i := ⟨_, rfl⟩
  rw [← hl'] at HL hl hr ⊢
  obtain ⟨li, hli⟩ : ∃ x, x = l.length := ⟨_, rfl⟩
  rw [← hli] at hl
  have HLi := hide hli
  obtain ⟨At, ct, h1, h2⟩ := h.terms
  obtain ⟨y1, y2⟩ := h2.le.2
  have HTs := hide h2.rd
  obtain ⟨tk, htk⟩ : ∃ x, x = ts.length := ⟨_, rfl⟩
  rw [← htk] at h1 y1 hr
  have HTk := hide htk
  have HRg := hide hr
  have HT1 := hide h1
  have HPl : Hid ((pickT ts l).length = li) := hide (by rw [pickT, List.length_map, hli])
  unfold maxLen at y2
  clear h hi hl' hli h1 h2 htk hr
  go_enter Tryz.func18, Tryz.ntmps18
  go_wp2_with (go_at_call 19; refine HL.out.mono ?_; rintro en w1 ⟨v, rfl, hown, hf⟩; rw [← HLi.out] at hown; obtain ⟨A, c, rfl, q1, q2, -⟩ := hown.form; have HF1 := hide hf; have HO1 := hide hown; unfold maxLen at q2; clear hf hown)
  go_loopw [5, 12] (fun v i wr => ∃ (k : Nat), k ≤ li ∧ i = .int .i64 (k : Nat) ∧ Hid (Fr No w1 wr) ∧ Hid (Own wr w1.heap.size 9 1 v k (svs (pickT ts (l.take k))))) (fun _ i _ => li - (intOf i).toNat)
  case atStart => exact ⟨0, by omega, by go_num, hide (Fr.refl _ _), hide (by rw [List.take_zero]; exact Own.nil _ _ _ _)⟩
  case round =>
    obtain ⟨k, hk, rfl, HF, HO⟩ := hrel
    by_cases hlt : k < li
    · have hk1 : k < l.length := by rw [← HLi.out]; exact hlt
      obtain ⟨ad, hA, _, hcell⟩ := (HO1.out.fr0 HF.out).rd.intAt hk1
      subst hA
      have htk : l.take (k + 1) = l.take k ++ [l.getD k 0] := (take_one hk1).1
      have hrg := HRg.out (l.getD k 0) (by rw [List.getD, List.getElem?_eq_getElem hk1]; exact List.getElem_mem hk1)
      obtain ⟨x, hx⟩ : ∃ x, x = l.getD k 0 := ⟨_, rfl⟩
      rw [← hx] at hcell htk hrg
      obtain ⟨xn, rfl⟩ : ∃ m : Nat, x = (m : Int) := ⟨x.toNat, by omega⟩
      have hxn : xn < tk := by omega
      have hfw := HF1.out.tr HF.out
      obtain ⟨adt, hAt, _, hct0⟩ := HTs.out xn (sv (ts.getD xn [])) (svs_get (by rw [← HTk.out]; exact hxn))
      subst hAt
      have hct := hfw.cell hct0 (fun h => h)
      have hcG := hfw.cell HT1.out (fun h => h)
      have hpk : pickT ts (l.take (k + 1)) = pickT ts (l.take k) ++ [ts.getD xn []] := by rw [htk]; simp [pickT]
      have HPk := hide hpk
      unfold sv at hct
      obtain ⟨t, ht⟩ : ∃ t, t = ts.getD xn [] := ⟨_, rfl⟩
      rw [← ht] at hct HPk
      obtain ⟨X, hX⟩ : ∃ X : ByteArray, X = ⟨t.toArray⟩ := ⟨_, rfl⟩
      rw [← hX] at hct
      have HX : Hid (Value.string X = sv t) := hide (by rw [hX]; rfl)
      have HOa := hide (HO.out.fr0 ((Fr.refl No wr).alloc (.cells #[.string X] 9)))
      have HS := hide (Src.one (P := Tryz.prog) wr (e := 9) Tryz.underlying43 (.string X) rfl)
      have hz3 : w1.heap.size ≤ (wr.alloc (.cells #[.string X] 9)).heap.size := (HF.out.alloc _).size
      have b1 : (k + 1) * 16 ≤ 140737488355328 := by omega
      have b2 : k + 1 ≤ maxLen := by unfold maxLen; omega
      clear hk1 htk hx hrg hfw hct0 hpk ht hX
      go_wp2_with (at_builtin; refine wpList_append_gen _ rfl (.tmp 16) (.tmp 24) 43 43 rfl w1.heap.size 9 i2 (.string ⟨#[]⟩) 1 16 Tryz.underlying43 hi2 hz2 hsz2 hby2 rfl u5 k _ rfl HOa.out _ 1 [.string X] rfl HS.out b1 b2 hz3 ?_; intro v6 w6 hown hfr hat; have HO6 := hide hown; have HF6 := hide ((HF.out.alloc _).own hfr (fun g hg => .inl (HOa.out.lt g hg).1)); clear hown hfr hat)
      go_roundw
      case rel => exact ⟨k + 1, by omega, by go_num, HF6, hide (by rw [HPk.out, svs_snoc, ← HX.out]; exact HO6.out)⟩
      case measure => simp [intOf]; omega
    · obtain rfl : k = li := by omega
      have hall : l.take k = l := List.take_of_length_le (by rw [HLi.out]; exact Nat.le_refl _)
      rw [hall] at HO
      obtain ⟨A4, c4, rfl, q3, q4, -⟩ := HO.out.form
      unfold maxLen at q4
      clear hall
      go_wp2
      go_ret
      exact ⟨_, rfl, by rw [HPl.out]; exact HO.out.lower HF1.out.size, HF1.out.tr HF.out⟩
end
end Go.Proofs.YtnjcncidlhllmaaGreat
namespace Go.Proofs.YtnjcncidlhllmaaGreat
set_option linter.unusedVariables false
set_option linter.unusedSimpArgs false
open Go.RowKit

def badK (tk : Nat) (x : Int) : Prop := x < 0 ∨ (tk : Int) ≤ x
instance (tk : Nat) (x : Int) : Decidable (badK tk x) := inferInstanceAs (Decidable (_ ∨ _))
section
variable {w : World} {P G tk ct : Nat} {At : Option Addr}
set_option maxRecDepth 100000 in
set_option maxHeartbeats 400000 in
theorem bad1_any (h1 : w.cell? ⟨P, 0, none⟩ = some (.pointer (some ⟨G, 0, none⟩))) (h2 : w.cell? ⟨G, 2, none⟩ = some (.slice At tk ct)) (hb : tk ≤ 4611686018427387903) (x : Int) (hx : -9223372036854775808 ≤ x ∧ x ≤ 9223372036854775807) :
    Calls Tryz.prog 55 #[.int .i64 x, .pointer (some ⟨P, 0, none⟩)] w (Ret (.bool (decide (badK tk x))) w) := by
  by_cases h0 : x < 0
  · have hd : decide (badK tk x) = true := decide_eq_true (.inl h0)
    have d0 : decide (x < 0) = true := decide_eq_true h0
    rw [hd]
    clear h0 hd
    go_enter Tryz.func55, Tryz.ntmps55
    go_wp2
    go_ret
    exact ⟨rfl, rfl⟩
  · have hd : decide (badK tk x) = decide ((tk : Int) ≤ x) := decide_eq_decide.2 ⟨fun h => h.elim (fun h => absurd h h0) id, .inr⟩
    have d0 : decide (x < 0) = false := decide_eq_false h0
    rw [hd]
    clear h0 hd
    go_enter Tryz.func55, Tryz.ntmps55
    go_wp2
    go_ret
    exact ⟨rfl, rfl⟩
/-- the first bad number's place, or -1. -/
def IxPost (w : World) (tk : Nat) (l : List Int) (en : Ending) (w' : World) : Prop := w' = w ∧ ((en = .returned (.int .i64 (-1)) ∧ ∀ x ∈ l, ¬ badK tk x) ∨ (∃ k : Nat, k ≤ 1048576 ∧ en = .returned (.int .i64 (k : Nat)) ∧ ∃ x ∈ l, badK tk x))
set_option maxRecDepth 100000 in
set_option maxHeartbeats 1000000 in
theorem indexBad_any (h1 : w.cell? ⟨P, 0, none⟩ = some (.pointer (some ⟨G, 0, none⟩))) (h2 : w.cell? ⟨G, 2, none⟩ = some (.slice At tk ct)) (hb : tk ≤ 4611686018427387903) (A : Option Addr) (n c B : Nat) (l : List Int) (hl : l.length = n) (hi : InI l) (hn : n ≤ c) (hc : c ≤ maxLen) (hn2 : n ≤ 1048576) (hr : Rd w B A (iz .i64 l)) :
    Calls Tryz.prog 85 #[.slice A n c, .func (.func 55) #[] #[.pointer (some ⟨P, 0, none⟩)]] w (IxPost w tk l) := by
  have HB := hide (fun x hx => bad1_any h1 h2 hb x hx)
  have HL := hide hl
  have HR := hide hr
  have HI := hide hi
  unfold maxLen at hc
  clear h1 h2 hl hr hi
  go_enter Tryz.func85, Tryz.ntmps85
  go_wp2
  go_loopw [8] (fun i wr => ∃ (k : Nat), k ≤ n ∧ i = .int .i64 (k : Nat) ∧ wr = w ∧ Hid (∀ x ∈ l.take k, ¬ badK tk x)) (fun i _ => n - (intOf i).toNat)
  case atStart => exact ⟨0, by omega, by go_num, rfl, hide (fun x hx => by rw [List.take_zero] at hx; cases hx)⟩
  case round =>
    obtain ⟨k, hk, rfl, rfl, HS⟩ := hrel
    by_cases hlt : k < n
    · have hk1 : k < l.length := by rw [HL.out]; exact hlt
      obtain ⟨ad, hA, _, hcell⟩ := HR.out.intAt hk1
      subst hA
      have htk : l.take (k + 1) = l.take k ++ [l.getD k 0] := (take_one hk1).1
      have hmem : l.getD k 0 ∈ l := by rw [List.getD, List.getElem?_eq_getElem hk1]; exact List.getElem_mem hk1
      have hin := HI.out _ hmem
      obtain ⟨x, hx⟩ : ∃ x, x = l.getD k 0 := ⟨_, rfl⟩
      rw [← hx] at hcell htk hmem hin
      have HBx := hide (HB.out x hin)
      have HTk := hide htk
      have HM := hide hmem
      clear hk1 hx htk hmem
      by_cases hbad : badK tk x
      · rw [decide_eq_true hbad] at HBx
        have HBd := hide hbad
        clear hbad
        go_wp2_with (go_at_call 55; refine HBx.out.mono ?_; rintro en w' ⟨rfl, rfl⟩)
        go_ret
        exact ⟨rfl, .inr ⟨k, by omega, rfl, x, HM.out, HBd.out⟩⟩
      · rw [decide_eq_false hbad] at HBx
        have HS' : Hid (∀ y ∈ l.take (k + 1), ¬ badK tk y) := hide (fun y hy => by
          rw [HTk.out] at hy
          rcases List.mem_append.1 hy with hy | hy
          · exact HS.out y hy
          · rw [List.mem_singleton.1 hy]; exact hbad)
        clear hbad
        go_wp2_with (go_at_call 55; refine HBx.out.mono ?_; rintro en w' ⟨rfl, rfl⟩)
        go_roundw
        case rel => exact ⟨k + 1, by omega, by go_num, trivial, HS'⟩
        case measure => simp [intOf]; omega
    · obtain rfl : k = n := by omega
      have htk : l.take k = l := List.take_of_length_le (by rw [HL.out]; exact Nat.le_refl _)
      rw [htk] at HS
      clear htk
      go_wp2
      go_ret
      exact ⟨rfl, .inl ⟨rfl, HS.out⟩⟩
set_option maxRecDepth 100000 in
set_option maxHeartbeats 400000 in
theorem containsBad_any (h1 : w.cell? ⟨P, 0, none⟩ = some (.pointer (some ⟨G, 0, none⟩))) (h2 : w.cell? ⟨G, 2, none⟩ = some (.slice At tk ct)) (hb : tk ≤ 4611686018427387903) (A : Option Addr) (n c B : Nat) (l : List Int) (hl : l.length = n) (hi : InI l) (hn : n ≤ c) (hc : c ≤ maxLen) (hn2 : n ≤ 1048576) (hr : Rd w B A (iz .i64 l)) :
    Calls Tryz.prog 54 #[.slice A n c, .func (.func 55) #[] #[.pointer (some ⟨P, 0, none⟩)]] w (fun en w' => w' = w ∧ ((en = .returned (.bool false) ∧ ∀ x ∈ l, ¬ badK tk x) ∨ (en = .returned (.bool true) ∧ ∃ x ∈ l, badK tk x))) := by
  have HX := hide (indexBad_any h1 h2 hb A n c B l hl hi hn hc hn2 hr)
  unfold maxLen at hc
  clear h1 h2 hl hi hr
  go_enter Tryz.func54, Tryz.ntmps54
  go_wp2_with (fail)
  refine HX.out.mono ?_
  rintro en w' ⟨rfl, ⟨rfl, hall⟩ | ⟨k, hk, rfl, hex⟩⟩
  · have HA := hide hall
    clear hall HX
    go_wp2
    go_ret
    exact ⟨rfl, .inl ⟨rfl, HA.out⟩⟩
  · have HA := hide hex
    clear hex HX
    go_wp2
    go_ret
    exact ⟨rfl, .inr ⟨by simp, HA.out⟩⟩
end
end Go.Proofs.YtnjcncidlhllmaaGreat
namespace Go.Proofs.YtnjcncidlhllmaaGreat
set_option linter.unusedVariables false
set_option linter.unusedSimpArgs false
open Go.RowKit

theorem text_has {bs s : List UInt8} {a : Nat} {most : Int} (hm : (s.length : Int) ≤ most) (hs : s.length < 18446744073709551616) (h : enc s.length ++ s <+: bs.drop a) : textS bs a 0 most = (s, a + (enc s.length ++ s).length, 0) := by
  obtain ⟨r, hr⟩ := h
  have hd : dec 0 0 (bs.drop a) = some (s.length, (enc s.length).length) := by rw [← hr, List.append_assoc]; exact dec_enc _ hs _
  have hl : (bs.drop a).length = (enc s.length).length + s.length + r.length := by rw [← hr, List.length_append, List.length_append]
  have ht : textR (bs.drop a) most = some (s, (enc s.length).length + s.length) := by
    rw [textR_ok hd (by omega)]
    congr 2
    rw [← hr, List.append_assoc, List.drop_left, List.take_left]
  unfold textS
  rw [if_pos rfl, ht]
  simp
theorem text_of {bs : List UInt8} {a : Nat} {e most : Int} (h : (textS bs a e most).2.2 = 0) : e = 0 ∧ ((textS bs a e most).1.length : Int) ≤ most ∧ (textS bs a e most).1.length < 18446744073709551616 ∧ enc (textS bs a e most).1.length ++ (textS bs a e most).1 <+: bs.drop a ∧ (textS bs a e most).2.1 = a + (enc (textS bs a e most).1.length ++ (textS bs a e most).1).length := by
  by_cases he : e = 0
  · subst he
    unfold textS at h ⊢
    rw [if_pos rfl] at h ⊢
    cases hd : dec 0 0 (bs.drop a) with
    | none => rw [textR_none hd] at h; cases h
    | some x =>
      obtain ⟨u, k⟩ := x
      by_cases hm : most < 0 ∨ most < (u : Int) ∨ (bs.drop a).length - k < u
      · rw [textR_no hd hm] at h; cases h
      · rw [textR_ok hd hm]
        obtain ⟨h1, h2⟩ := dec_has hd
        have h3 := dec_le _ _ _ _ _ hd
        have hl : (((bs.drop a).drop k).take u).length = u := by rw [List.length_take, List.length_drop]; omega
        refine ⟨rfl, ?_, ?_, ?_, ?_⟩
        · show (((((bs.drop a).drop k).take u).length : Nat) : Int) ≤ most
          rw [hl]; omega
        · show (((bs.drop a).drop k).take u).length < _
          rw [hl]; exact dec_lt _ 0 0 u k (by simp) hd
        · show enc (((bs.drop a).drop k).take u).length ++ ((bs.drop a).drop k).take u <+: bs.drop a
          rw [hl, pre_app, ← h2, ← List.drop_drop]
          exact ⟨h1, List.take_prefix _ _⟩
        · show a + (k + u) = _
          rw [List.length_append, hl, ← h2]
  · exfalso
    unfold textS at h
    rw [if_neg he] at h
    exact he h

/-- n texts off bytes, as long as none fails. -/
def txsS (bs : List UInt8) : Nat → Nat → Int → List Tx × Nat × Int
  | 0, a, e => ([], a, e)
  | n + 1, a, e => if e = 0 then ((textS bs a e 256).1 :: (txsS bs n (textS bs a e 256).2.1 (textS bs a e 256).2.2).1, (txsS bs n (textS bs a e 256).2.1 (textS bs a e 256).2.2).2) else ([], a, e)
theorem txs_has {bs : List UInt8} : ∀ (l : List Tx) (a : Nat), (∀ t ∈ l, t.length ≤ 256) → txts l <+: bs.drop a → txsS bs l.length a 0 = (l, a + (txts l).length, 0)
  | [], a, _, _ => by simp [txsS, txts]
  | t :: r, a, h, hp => by
    have e : txts (t :: r) = txt t ++ txts r := by simp [txts]
    rw [e] at hp ⊢
    have ht := h t List.mem_cons_self
    obtain ⟨z, hz⟩ := hp
    have h1 : textS bs a 0 256 = (t, a + (txt t).length, 0) := text_has (by omega) (by omega) ⟨txts r ++ z, by rw [← hz, txt]; simp only [List.append_assoc]⟩
    have h2 := txs_has r (a + (txt t).length) (fun s hs => h s (List.mem_cons_of_mem _ hs)) ⟨z, by rw [← List.drop_drop, ← hz, List.append_assoc, List.drop_left]⟩
    rw [List.length_cons, txsS, if_pos rfl, h1, h2, List.length_append, Nat.add_assoc]
def hT (bs : List UInt8) : Nat × Nat × Int := sizeS bs 0 0 (bs.length : Nat)
def tT (bs : List UInt8) : List Tx × Nat × Int := txsS bs (hT bs).1 (hT bs).2.1 (hT bs).2.2
def restT (bs : List UInt8) : List UInt8 := bs.drop (tT bs).2.1
def rdT (bs : List UInt8) : RwT := (rdV (restT bs)).map (pickT (tT bs).1)
def accT (bs : List UInt8) : Prop := (tT bs).2.2 = 0 ∧ rdOk (restT bs) ∧ (∀ x ∈ (aV (restT bs)).1, ¬ badK (tT bs).1.length x) ∧ keptT (rdT bs) = bs
theorem rowsV_flat (bits : List UInt8) (lens all : List Int) : ∀ n, (rowsV bits lens all n).flatten = all.take (atV bits lens n)
  | 0 => by simp [rowsV, atV]
  | n + 1 => by
    have hm := atV_mono bits lens (i := n) (j := n + 1) (by omega)
    rw [rowsV_succ, List.flatten_append, rowsV_flat bits lens all n, List.flatten_singleton, rowV]
    obtain ⟨d, hd⟩ : ∃ d, atV bits lens (n + 1) = atV bits lens n + d := ⟨_, (Nat.add_sub_cancel' hm).symm⟩
    rw [hd, Nat.add_sub_cancel_left, List.take_add]
theorem all_flat {bs : List UInt8} (h : rdOk bs) : (rdV bs).flatten = (aV bs).1 := by
  rw [rdV, rowsV_flat, fitV h, List.take_length]
theorem pickT_ords {ts l : List Tx} (hts : ltT ts) (h : ∀ t ∈ l, t ∈ ts) : pickT ts (ordsV ts l) = setT l := by
  unfold pickT ordsV
  rw [List.map_map]
  conv => rhs; rw [← List.map_id (setT l)]
  refine List.map_congr_left fun t ht => ?_
  simp only [Function.comp, Int.toNat_natCast, id]
  exact (ordT_mem hts (h t ((setT_mem l t).1 ht))).2
theorem termsV_sets2 (rows : RwT) : termsV (rows.map setT) = termsV rows := termsV_sets rows
theorem setT_setT (l : List Tx) : setT (setT l) = setT l := setT_of_lt (setT_lt l)
theorem ordsR_sets (rows : RwT) : ordsR (rows.map setT) = ordsR rows := by
  unfold ordsR
  rw [termsV_sets2, List.map_map]
  refine List.map_congr_left fun l _ => ?_
  simp only [Function.comp, ordsV, setT_setT]
theorem okT_sets {rows : RwT} (h : okT rows) : okT (rows.map setT) := by
  refine ⟨⟨by rw [List.length_map]; exact h.1.1, fun l hl => ?_⟩, fun l hl t ht => ?_⟩
  · obtain ⟨m, hm, rfl⟩ := List.mem_map.1 hl
    exact Nat.le_trans (setT_le m) (h.1.2 m hm)
  · obtain ⟨m, hm, rfl⟩ := List.mem_map.1 hl
    exact h.2 m hm t ((setT_mem m t).1 ht)
theorem textsB_sets (rows : RwT) : textsB (rows.map setT) = textsB rows := by rw [textsB, textsB, termsV_sets2, ordsR_sets]
theorem txts_ge : ∀ l : List Tx, l.length ≤ (txts l).length
  | [] => by simp
  | t :: r => by
    have h1 := txts_ge r
    have h2 := (enc_len t.length).1
    have e : txts (t :: r) = txt t ++ txts r := by simp [txts]
    rw [e, List.length_append, List.length_cons, txt, List.length_append]
    omega
/-- what is kept is read. -/
theorem texts_parts {rows : RwT} (h : okT rows) : tT (textsB rows) = (termsV rows, (enc (termsV rows).length ++ txts (termsV rows)).length, 0) ∧ restT (textsB rows) = formV (ordsR rows) := by
  have hl := termsV_le h.1
  have h256 : ∀ t ∈ termsV rows, t.length ≤ 256 := fun t ht => by
    obtain ⟨l, hl, ht⟩ := (termsV_mem rows t).1 ht
    exact h.2 l hl t ht
  have hge := txts_ge (termsV rows)
  have e1 : hT (textsB rows) = ((termsV rows).length, 0 + (enc (termsV rows).length).length, 0) := size_has (by omega) (by rw [textsB]; simp only [List.length_append]; omega) ⟨txts (termsV rows) ++ formV (ordsR rows), by simp [textsB]⟩
  have e2 : tT (textsB rows) = (termsV rows, 0 + (enc (termsV rows).length).length + (txts (termsV rows)).length, 0) := by
    unfold tT
    rw [e1]
    exact txs_has (termsV rows) _ h256 ⟨formV (ordsR rows), by rw [Nat.zero_add, show textsB rows = enc (termsV rows).length ++ (txts (termsV rows) ++ formV (ordsR rows)) by simp [textsB], List.drop_left]⟩
  refine ⟨by rw [e2, List.length_append, Nat.zero_add], ?_⟩
  unfold restT
  rw [e2]
  dsimp only
  rw [textsB, show 0 + (enc (termsV rows).length).length + (txts (termsV rows)).length = (enc (termsV rows).length ++ txts (termsV rows)).length by rw [List.length_append]; omega, List.drop_left]
theorem rd_texts {rows : RwT} (h : okT rows) : accT (textsB rows) ∧ rdT (textsB rows) = rows.map setT ∧ rdV (restT (textsB rows)) = ordsR rows := by
  obtain ⟨e1, e2⟩ := texts_parts h
  obtain ⟨r1, r2⟩ := rd_form (ordsR_ok h.1) (ordsR_in h.1)
  have hr : rdT (textsB rows) = rows.map setT := by
    unfold rdT
    rw [e1, e2, r2, ordsR, List.map_map]
    refine List.map_congr_left fun l hl => ?_
    exact pickT_ords (termsV_lt rows) (fun t ht => (termsV_mem rows t).2 ⟨l, hl, ht⟩)
  refine ⟨⟨by rw [e1], by rw [e2]; exact r1, fun x hx => ?_, ?_⟩, hr, by rw [e2, r2]⟩
  · rw [e2] at hx
    rw [← all_flat r1, r2] at hx
    obtain ⟨l, hl, hx⟩ := List.mem_flatten.1 hx
    obtain ⟨m, hm, rfl⟩ := List.mem_map.1 hl
    obtain ⟨t, ht, rfl⟩ := List.mem_map.1 hx
    have := (ordT_mem (termsV_lt rows) ((termsV_mem rows t).2 ⟨m, hm, (setT_mem m t).1 ht⟩)).1
    rw [e1]
    unfold badK
    dsimp only
    omega
  · rw [hr, keptT, if_pos (okT_sets h), textsB_sets]
end Go.Proofs.YtnjcncidlhllmaaGreat
namespace Go.Proofs.YtnjcncidlhllmaaGreat
set_option linter.unusedVariables false
set_option linter.unusedSimpArgs false
open Go.RowKit

set_option maxRecDepth 100000 in
set_option maxHeartbeats 400000 in
theorem cloneS_any (A : Option Addr) (n c B : Nat) (xs : List Tx) (w : World) (hl : xs.length = n) (hn : n ≤ c) (hc : c ≤ maxLen) (hb : n ≤ 8796093022208) (hr : Rd w B A (svs xs)) :
    Calls Tryz.prog 69 #[.slice A n c] w (GivesT w xs) := by
  have HR := hide hr; clear hr
  have HL := hide hl; clear hl
  obtain ⟨i0, hi, hz, hsz, hby⟩ := info_parts Tryz.infoS
  cases A with
  | none =>
    have he := fun W => Lib.run_eql_slice_nil (P := Tryz.prog) W 43 9 none n c 0 0 Tryz.underlying43
    go_enter Tryz.func69, Tryz.ntmps69
    go_wp2
    go_ret
    have h0 := HR.out.svs_nil
    subst h0
    exact ⟨_, rfl, Own.nil _ _ _ _, Fr.refl _ _⟩
  | some ad =>
    have he := fun W => Lib.run_eql_slice_nil (P := Tryz.prog) W 43 9 (some ad) n c 0 0 Tryz.underlying43
    have HS := hide (Src.ofRd (P := Tryz.prog) (size := 1) (w.alloc (.cells #[] 9)) Tryz.underlying43 (some ad) n c (svs xs) (by rw [svs_len, HL.out]; omega) (by omega) (HR.out.fr0 ((Fr.refl _ _).alloc _)) (svs_one _))
    go_enter Tryz.func69, Tryz.ntmps69
    have b1 : (0 + n) * 16 ≤ 140737488355328 := by omega
    have b2 : 0 + n ≤ maxLen := by unfold maxLen at *; omega
    have b3 : w.heap.size ≤ (w.alloc (.cells #[] 9)).heap.size := by simp
    go_wp2_with (at_builtin; (refine wpList_append_gen _ rfl (.tmp 5) (.tmp 6) 43 43 rfl w.heap.size 9 i0 (.string ⟨#[]⟩) 1 16 Tryz.underlying43 hi hz hsz hby rfl _ 0 [] rfl (own_empty w 9) _ n (svs xs) rfl HS.out b1 b2 b3 ?_); intro v' w' hown hfr hat)
    go_ret
    refine ⟨v', rfl, by simpa [HL.out] using hown, ?_⟩
    exact ((Fr.refl No w).alloc _).own hfr (fun g h => .inl (Nat.le_of_eq (Option.some.inj h)))
/-- rows that are answered: rows in order, or none. -/
def GivesST (w : World) (rows : RwT) (en : Ending) (w' : World) : Prop := ((okR rows ∧ ∃ A c vals, en = .returned (.tuple #[.slice A rows.length c, .bool true]) ∧ Own w' w.heap.size 43 1 (.slice A rows.length c) rows.length vals ∧ ValsT w' w.heap.size vals (sortR rows)) ∨ (¬ okR rows ∧ en = .returned (.tuple #[.slice none 0 0, .bool false]))) ∧ Fr No w w'
theorem make_rowsT (k : Nat) (hk : k ≤ 16384) (W : World) : (Instr.makeSlice 23 (.int .i64 0) (.int .i64 (k : Nat))).run Tryz.prog W = .ok (.slice (some ⟨W.heap.size, 0, none⟩) 0 k) (W.alloc (.cells (madeCells #[.slice none 0 0] k) 43)) := by
  obtain ⟨i0, hi, hz, hsz, hby⟩ := info_parts Tryz.infoRT
  have h := run_make (P := Tryz.prog) W 23 43 i0 (.slice none 0 0) Tryz.underlying23 hi hz .i64 .i64 0 (k : Int) (by omega) (by omega) (by rw [hby]; omega) (by omega)
  rw [Int.toNat_natCast, hsz, Nat.mul_one] at h
  exact h
theorem sortR_take {rows : RwT} {k : Nat} (h : k < rows.length) : sortR (rows.take (k + 1)) = sortR (rows.take k) ++ [sortT (rows.getD k [])] := by
  rw [take_map_getDT h]; simp [sortR]
set_option maxRecDepth 100000 in
set_option maxHeartbeats 2000000 in
theorem sortedT_big (A : Option Addr) (n c B : Nat) (rows : RwT) (w : World) (hl : rows.length = n) (hbig : 16384 < n) (hn : n ≤ c) (hc : c ≤ maxLen) (hr : TSl w B A rows) :
    Calls Tryz.prog 41 #[.slice A n c] w (GivesST w rows) := by
  have HL := hide hl
  unfold maxLen at hc
  obtain ⟨ad, Ai, ci, rfl, hadb, hcell, hc1, hc2, hrd⟩ := hr.at (i := 0) (by omega)
  generalize (rows.getD 0 []).length = li at hcell hc1
  unfold maxLen at hc2
  clear hrd hr hl
  have hmin : min (n : Int) 16384 = ((16384 : Nat) : Int) := by omega
  have hmk : ∀ W : World, (Instr.makeSlice 23 (.int .i64 0) (.int .i64 16384)).run Tryz.prog W = .ok (.slice (some ⟨W.heap.size, 0, none⟩) 0 16384) (W.alloc (.cells (madeCells #[.slice none 0 0] 16384) 43)) := fun W => make_rowsT 16384 (by omega) W
  go_enter Tryz.func41, Tryz.ntmps41
  go_wp2
  obtain ⟨w1, hw1⟩ : ∃ w1, w1 = w.alloc (.cells (madeCells #[.slice none 0 0] 16384) 43) := ⟨_, rfl⟩
  rw [← hw1]
  have hf : Fr No w w1 := by rw [hw1]; exact (Fr.refl No w).alloc _
  have hcell := hf.cell hcell (fun h => h)
  have HF := hide hf
  have hcell' : w1.cell? ad = some (.slice Ai li ci) := by
    have h : ad.add 0 = ad := Addr.add_zero' ad
    rw [h] at hcell
    exact hcell
  clear hw1 hmk hf hcell
  go_loopw [4, 6, 13] (fun _ _ i wr => i = .int .i64 0 ∧ wr = w1) (fun _ _ _ _ => 0)
  case atStart => exact ⟨by go_num, rfl⟩
  case round =>
    obtain ⟨rfl, rfl⟩ := hrel
    have e1 : (0 : Int) < n := by omega
    have e2 : decide ((16384 : Int) < n) = true := decide_eq_true (by omega)
    have e3 : decide (0 < n) = true := decide_eq_true (by omega)
    have e5 : 0 < n := by omega
    have e4 : decide (16384 < n) = true := decide_eq_true hbig
    have HBig := hide hbig
    clear hbig
    go_wp2
    go_ret2
    exact ⟨.inr ⟨fun h => by have := h.1; have := HL.out; have := HBig.out; omega, rfl⟩, HF.out⟩
set_option maxRecDepth 100000 in
set_option maxHeartbeats 4000000 in
theorem sortedT_any (A : Option Addr) (n c B : Nat) (rows : RwT) (w : World) (hl : rows.length = n) (hn : n ≤ c) (hc : c ≤ maxLen) (hB : B ≤ w.heap.size) (hr : TSl w B A rows) :
    Calls Tryz.prog 41 #[.slice A n c] w (GivesST w rows) := by
  by_cases hbig : 16384 < n
  · exact sortedT_big A n c B rows w hl hbig hn hc hr
  obtain ⟨i1, hi1, hz1, hsz1, hby1⟩ := info_parts Tryz.infoRT
  have hnb : n ≤ 16384 := by omega
  clear hbig
  have HR := hide hr
  have HL := hide hl
  unfold maxLen at hc
  have hmin : min (n : Int) 16384 = (n : Int) := by omega
  have hmk := make_rowsT n (by omega)
  clear hr hl
  go_enter Tryz.func41, Tryz.ntmps41
  go_wp2
  obtain ⟨w1, hw1⟩ : ∃ w1, w1 = w.alloc (.cells (madeCells #[.slice none 0 0] n) 43) := ⟨_, rfl⟩
  rw [← hw1]
  have hf : Fr No w w1 := by rw [hw1]; exact (Fr.refl No w).alloc _
  have hO : Own w1 w.heap.size 43 1 (.slice (some ⟨w.heap.size, 0, none⟩) 0 n) 0 [] := by rw [hw1]; exact made_own0 w n _ _ (by unfold maxLen; omega)
  have HF := hide hf
  have HO := hide hO
  clear hw1 hmk hf hO hmin
  go_loopw [4, 6, 13] (fun v4 _ i wr => ∃ (k : Nat) (vals : List Value), k ≤ n ∧ i = .int .i64 (k : Nat) ∧ Hid (Fr No w wr) ∧ Hid (Own wr w.heap.size 43 1 v4 k vals) ∧ Hid (ValsT wr w.heap.size vals (sortR (rows.take k))) ∧ Hid (∀ l ∈ rows.take k, l.length ≤ 64)) (fun _ _ i _ => n - (intOf i).toNat)
  case atStart => exact ⟨0, [], by omega, by go_num, HF, HO, hide (by rw [List.take_zero]; exact ValsT.nil _ _), hide (fun l hl => by rw [List.take_zero] at hl; cases hl)⟩
  case round =>
    clear HF HO
    obtain ⟨k, vals, hk, rfl, HF, HO, HV, HS⟩ := hrel
    by_cases hlt : k < n
    · have hk1 : k < rows.length := by rw [HL.out]; exact hlt
      obtain ⟨ad, Ai, ci, rfl, hadb, hcell, hc1, hc2, hrd⟩ := HR.out.at hk1
      have hcell := HF.out.cell hcell (fun h => h)
      obtain ⟨li, hli⟩ : ∃ x, x = (rows.getD k []).length := ⟨_, rfl⟩
      rw [← hli] at hcell hc1
      have e0 : decide ((16384 : Int) < n) = false := decide_eq_false (by omega)
      have HLI := hide hli
      by_cases hbig : 64 < li
      · have hbad : ¬ okR rows := fun h => by
          have := h.2 (rows.getD k []) (by rw [List.getD, List.getElem?_eq_getElem hk1]; exact List.getElem_mem hk1)
          omega
        have HB := hide hbad
        have hc2' := hc2
        unfold maxLen at hc2'
        clear hrd hk1 hadb hli hbad
        go_wp2
        go_ret2
        exact ⟨.inr ⟨HB.out, rfl⟩, HF.out⟩
      · have HCl := hide (cloneS_any Ai li ci B (rows.getD k []) wr hli.symm hc1 hc2 (by omega) (hrd.fr0 HF.out))
        have hle : li ≤ 64 := by omega
        have hc2' := hc2
        unfold maxLen at hc2'
        have HS' : Hid (∀ l ∈ rows.take (k + 1), l.length ≤ 64) := hide (fun l hl => by
          rw [take_map_getDT hk1] at hl
          rcases List.mem_append.1 hl with hl | hl
          · exact HS.out l hl
          · rw [List.mem_singleton.1 hl]; omega)
        have HT := hide (sortR_take hk1)
        have hws := HF.out.size
        have b1 : (k + 1) * 24 ≤ 140737488355328 := by omega
        have b2 : k + 1 ≤ maxLen := by unfold maxLen; omega
        clear hrd hk1 hadb hli hbig HS
        go_wp2_with (first
          | (go_at_call 69; refine HCl.out.mono ?_; rintro e1 w2 ⟨v2, rfl, hown, hfr⟩; rw [← HLI.out] at hown; obtain ⟨A2, c2, rfl, q1, q2, _⟩ := hown.form; have HSo := hide (sortT_any wr.heap.size li c2 A2 (rows.getD k []) w2 hown (by omega)); have HW2 := hide hfr; have HO2 := hide hown; unfold maxLen at q2; clear hown hfr)
          | (go_at_call 43; refine HSo.out.mono ?_; rintro e1 w3 ⟨rfl, hown, hfr⟩; have HO3 := hide hown; have HF3 : Hid (Fr No wr w3) := hide (HW2.out.trans hfr (fun i hi e => by have := (HO2.out.lt i e).1; omega)); have HF03 : Hid (Fr No w w3) := hide (HF.out.trans HF3.out (fun _ _ h => h.elim)); have HV3 := hide (HV.out.fr0 HF3.out); have HOut := hide ((HO.out.fr0 HF3.out).fr0 ((Fr.refl No w3).alloc (.cells #[.slice A2 li c2] 43))); have hz3 : w.heap.size ≤ (w3.alloc (.cells #[.slice A2 li c2] 43)).heap.size := (by have := HF03.out.size; simp; omega); clear hown hfr)
          | (at_builtin; refine wpList_append_gen _ rfl (.tmp 29) (.tmp 31) 23 23 rfl w.heap.size 43 i1 (.slice none 0 0) 1 24 Tryz.underlying23 hi1 hz1 hsz1 hby1 rfl u4 k _ rfl HOut.out _ 1 [.slice A2 li c2] rfl (src_rowT w3 A2 li c2) b1 b2 hz3 ?_; intro v5 w5 hown hfr hat; have HO5 := hide hown; have HFa := hide hfr; clear hown hfr hat))
        go_roundw
        case rel =>
          have hV3 := HV3.out.fr0 ((Fr.refl No w3).alloc (.cells #[.slice A2 li c2] 43))
          have hO3 := HO3.out.fr0 ((Fr.refl No w3).alloc (.cells #[.slice A2 li c2] 43))
          refine ⟨k + 1, vals ++ [.slice A2 li c2], by omega, by go_num, hide ((HF03.out.alloc _).own HFa.out (fun g hg => .inl (HOut.out.lt g hg).1)), HO5, hide ?_, HS'⟩
          rw [HT.out]
          refine ValsT.snoc (w0 := wr) HV.out ?_ ?_ hws
          · exact hV3.fr HFa.out (fun j v hv i hi e => by
              obtain ⟨bs, _, ho⟩ := hV3.get hv
              exact ho.apart HOut.out (by decide) i hi e)
          · rw [sortT_len, ← HLI.out]
            exact hO3.fr HFa.out (fun i hi e => hO3.apart HOut.out (by decide) i hi e)
        case measure => simp [intOf]; omega
    · obtain rfl : k = n := by omega
      have htk : rows.take k = rows := List.take_of_length_le (by rw [HL.out]; omega)
      rw [htk] at HV HS
      obtain ⟨A4, c4, rfl, q1, q2, _⟩ := HO.out.form
      unfold maxLen at q2
      clear htk
      go_wp2
      go_ret2
      refine ⟨.inl ⟨⟨by rw [HL.out]; exact hnb, HS.out⟩, A4, c4, vals, by rw [HL.out]; rfl, by rw [HL.out]; exact HO.out, HV.out⟩, HF.out⟩
end Go.Proofs.YtnjcncidlhllmaaGreat
namespace Go.Proofs.YtnjcncidlhllmaaGreat
set_option linter.unusedVariables false
set_option linter.unusedSimpArgs false
open Go.RowKit

theorem svs_app (a b : List Tx) : svs (a ++ b) = svs a ++ svs b := by simp [svs]
theorem Own.st {w : World} {base e n c g : Nat} {xs : List Value} (h : Own w base e 1 (.slice (some ⟨g, 0, none⟩) n c) n xs) {k : Nat} (hk : k < n) :
    w.cell? ⟨g, k, none⟩ = xs[k]? ∧ w.frozen? ⟨g, k, none⟩ = false ∧ ∀ v : Value, Own (w.setCell ⟨g, k, none⟩ v) base e 1 (.slice (some ⟨g, 0, none⟩) n c) n (xs.set k v) := by
  obtain ⟨g', e1, _, _, h1, h2, h3⟩ := h.store hk
  injection e1 with e1
  injection e1 with e1
  subst e1
  exact ⟨h1, h2, h3⟩
theorem ValsI.put {w w' : World} {base i : Nat} {vals : List Value} {bss : List (List Int)} {v v' : Value} {bs' : List Int} (h : ValsI w base vals bss) (hi : vals[i]? = some v) (f : Fr (fun k => v.ownBlock = some k) w w')
    (o' : Own w' base 2 1 v' bs'.length (iz .i64 bs')) (hb : v'.ownBlock = v.ownBlock ∨ v'.ownBlock = some w.heap.size) : ValsI w' base (vals.set i v') (bss.set i bs') := by
  have hil := (List.getElem?_eq_some_iff.1 hi).1
  have hlt : ∀ (j : Nat) vj, vals[j]? = some vj → ∀ k, vj.ownBlock = some k → k < w.heap.size := fun j vj hj k hk => by
    obtain ⟨_, _, ho⟩ := h.get hj
    exact (ho.lt k hk).2
  have hd : ∀ (j : Nat) vj, j ≠ i → vals[j]? = some vj → ∀ k, vj.ownBlock = some k → v.ownBlock ≠ some k := fun j vj hne hj k hk => by
    rcases Nat.lt_or_gt_of_ne hne with h1 | h1
    · exact h.dis j i vj v h1 hj hi k hk
    · intro e
      exact h.dis i j v vj h1 hi hj k e hk
  have hd' : ∀ (j : Nat) vj, j ≠ i → vals[j]? = some vj → ∀ k, vj.ownBlock = some k → v'.ownBlock ≠ some k := fun j vj hne hj k hk => by
    rcases hb with e | e
    · rw [e]; exact hd j vj hne hj k hk
    · rw [e]
      intro e2
      injection e2 with e2
      have := hlt j vj hj k hk
      omega
  refine ⟨by simp [h.len], fun j vj bj hv hbj => ?_, fun a b va vb hab ha hb2 k hk => ?_⟩
  · by_cases e : j = i
    · subst e
      rw [List.getElem?_set_self hil] at hv
      rw [List.getElem?_set_self (by rw [← h.len]; exact hil)] at hbj
      injection hv with hv
      injection hbj with hbj
      subst hv; subst hbj
      exact o'
    · rw [List.getElem?_set_ne (fun h => e h.symm)] at hv hbj
      exact (h.own j vj bj hv hbj).fr f (fun k hk e2 => hd j vj e hv k hk e2)
  · by_cases ea : a = i
    · subst ea
      rw [List.getElem?_set_self hil] at ha
      rw [List.getElem?_set_ne (by omega)] at hb2
      injection ha with ha
      subst ha
      intro e2
      exact hd' b vb (by omega) hb2 k e2 hk
    · rw [List.getElem?_set_ne (fun h => ea h.symm)] at ha
      by_cases eb : b = i
      · subst eb
        rw [List.getElem?_set_self hil] at hb2
        injection hb2 with hb2
        subst hb2
        exact hd' a va ea ha k hk
      · rw [List.getElem?_set_ne (fun h => eb h.symm)] at hb2
        exact h.dis a b va vb hab ha hb2 k hk
theorem ValsT.put {w w' : World} {base i : Nat} {vals : List Value} {bss : List (List Tx)} {v v' : Value} {bs' : List Tx} (h : ValsT w base vals bss) (hi : vals[i]? = some v) (f : Fr (fun k => v.ownBlock = some k) w w')
    (o' : Own w' base 9 1 v' bs'.length (svs bs')) (hb : v'.ownBlock = v.ownBlock ∨ v'.ownBlock = some w.heap.size) : ValsT w' base (vals.set i v') (bss.set i bs') := by
  have hil := (List.getElem?_eq_some_iff.1 hi).1
  have hlt : ∀ (j : Nat) vj, vals[j]? = some vj → ∀ k, vj.ownBlock = some k → k < w.heap.size := fun j vj hj k hk => by
    obtain ⟨_, _, ho⟩ := h.get hj
    exact (ho.lt k hk).2
  have hd : ∀ (j : Nat) vj, j ≠ i → vals[j]? = some vj → ∀ k, vj.ownBlock = some k → v.ownBlock ≠ some k := fun j vj hne hj k hk => by
    rcases Nat.lt_or_gt_of_ne hne with h1 | h1
    · exact h.dis j i vj v h1 hj hi k hk
    · intro e
      exact h.dis i j v vj h1 hi hj k e hk
  have hd' : ∀ (j : Nat) vj, j ≠ i → vals[j]? = some vj → ∀ k, vj.ownBlock = some k → v'.ownBlock ≠ some k := fun j vj hne hj k hk => by
    rcases hb with e | e
    · rw [e]; exact hd j vj hne hj k hk
    · rw [e]
      intro e2
      injection e2 with e2
      have := hlt j vj hj k hk
      omega
  refine ⟨by simp [h.len], fun j vj bj hv hbj => ?_, fun a b va vb hab ha hb2 k hk => ?_⟩
  · by_cases e : j = i
    · subst e
      rw [List.getElem?_set_self hil] at hv
      rw [List.getElem?_set_self (by rw [← h.len]; exact hil)] at hbj
      injection hv with hv
      injection hbj with hbj
      subst hv; subst hbj
      exact o'
    · rw [List.getElem?_set_ne (fun h => e h.symm)] at hv hbj
      exact (h.own j vj bj hv hbj).fr f (fun k hk e2 => hd j vj e hv k hk e2)
  · by_cases ea : a = i
    · subst ea
      rw [List.getElem?_set_self hil] at ha
      rw [List.getElem?_set_ne (by omega)] at hb2
      injection ha with ha
      subst ha
      intro e2
      exact hd' b vb (by omega) hb2 k e2 hk
    · rw [List.getElem?_set_ne (fun h => ea h.symm)] at ha
      by_cases eb : b = i
      · subst eb
        rw [List.getElem?_set_self hil] at hb2
        injection hb2 with hb2
        subst hb2
        exact hd' a va ea ha k hk
      · rw [List.getElem?_set_ne (fun h => eb h.symm)] at hb2
        exact h.dis a b va vb hab ha hb2 k hk
end Go.Proofs.YtnjcncidlhllmaaGreat
namespace Go.Proofs.YtnjcncidlhllmaaGreat
set_option linter.unusedVariables false
set_option linter.unusedSimpArgs false
open Go.RowKit

set_option maxRecDepth 100000 in
set_option maxHeartbeats 800000 in
theorem putText_any (A : Option Addr) (n c B : Nat) (bs : List UInt8) (s : ByteArray) (w : World) (hl : bs.length = n) (hn : n ≤ c) (hc : c ≤ maxLen) (hb : n + s.size ≤ 140737488350000) (hB : B ≤ w.heap.size) (hr : Rd w B A (by8 bs)) :
    Calls Tryz.prog 45 #[.slice A n c, .string s] w (GivesB w (bs ++ enc s.size ++ s.data.toList)) := by
  have H := hide (putU_any A n c B bs s.size w hl hn hc (by omega) hB hr (by omega))
  obtain ⟨i0, hi, hz, hsz, hby⟩ := info_parts Tryz.info5
  have hlen : (bs ++ enc s.size).length ≤ n + 10 := by
    have := (encF_len 9 s.size).2
    rw [List.length_append, hl]
    unfold enc
    omega
  generalize bs ++ enc s.size = xs at H hlen
  have hs : s.size ≤ 9223372036854775807 := by omega
  clear hr hl hn hc
  generalize hm : s.size = m at *
  have HS := fun W => Src.ofString (P := Tryz.prog) (w := W) Tryz.underlying9 s
  rw [hm, byteCells_by8] at HS
  have HS' := hide HS
  have hsl : s.data.toList.length = m := by rw [← hm, Array.length_toList]; rfl
  generalize s.data.toList = t at HS' hsl
  have b1 : (xs.length + m) * 1 ≤ 140737488355328 := by omega
  have b2 : xs.length + m ≤ maxLen := by unfold maxLen; omega
  clear HS
  go_enter Tryz.func45, Tryz.ntmps45
  go_wp2_with (first | (go_at_call 44; refine H.out.mono ?_; rintro en w1 ⟨v1, rfl, hown, hfr⟩; have HO := hide hown; have HF := hide hfr; have b3 := hfr.size; clear hown hfr) | (at_builtin; refine wpList_append_gen _ rfl (.tmp 9) (.tmp 10) 25 9 rfl w.heap.size 5 i0 (.int .u8 0) 1 1 Tryz.underlying25 hi hz hsz hby rfl v1 xs.length (by8 xs) rfl HO.out _ m (by8 t) rfl (HS'.out w1) b1 b2 b3 ?_; intro v' w' hown hfr hat; obtain ⟨A1, c1, rfl, hc1, hc2, _⟩ := hown.form; have HOn := hide hown; have HFn := hide hfr; clear hown hfr hat) | (go_at_call 74; refine (clip_any _ _ _ _ hc1 hc2).mono ?_; rintro en w2 ⟨rfl, rfl⟩))
  go_ret
  refine ⟨_, rfl, ?_, HF.out.own HFn.out (fun g hg => .inl (HO.out.lt g hg).1)⟩
  rw [by8_append, List.length_append, hsl]
  exact HOn.out.clip

end Go.Proofs.YtnjcncidlhllmaaGreat
