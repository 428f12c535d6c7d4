/- Several texts in one: TakeN, TakeB, BkNm, KitI64, StepA, WpN, BkLe. -/
import Derived.Test.YtpopbkcbplmcaaaK3
import Derived.Deep.RegionWith
import Derived.RegionTactic
import Derived.BigRegion
import Derived.TacticsInMore
import Derived.Deep.RegionLaw
import Derived.Deep.DeepCutAuto
namespace Go.Proofs.Ytpopbkcbplmcaaa
set_option linter.unusedVariables false
set_option linter.unusedSimpArgs false
open Go.RowKit

set_option maxRecDepth 100000 in
set_option maxHeartbeats 800000 in
theorem size1_any (r : Value) (b1 b2 : Nat) (most : Int) (A : Option Addr) (n c B : Nat) (bs : List UInt8) (W : World) (hl : bs.length = n) (hn : n ≤ c) (hc : c ≤ maxLen) (hm1 : -9223372036854775808 ≤ most) (hm2 : most ≤ 9223372036854775807) (hr : Rd W B A (by8 bs)) (c1 : W.cell? ⟨b1, 0, none⟩ = some r) (c2 : W.cell? ⟨b2, 0, none⟩ = some (.int .i64 most)) :
    Calls Try.prog 47 #[.slice A n c, .pointer (some ⟨b1, 0, none⟩), .pointer (some ⟨b2, 0, none⟩)] W (Ret (sizeV (sizeR bs most)) W) := by
  have HN := hide (number_any r A n c B bs W hl hn hc hr)
  cases hd : dec 0 0 bs with
  | none =>
    have HT := hide (sizeR_none (most := most) hd)
    rw [hd] at HN
    simp only [numV] at HN
    clear hr hl hd
    go_enter Try.func47, Try.ntmps47
    go_wp2_with (go_at_call 48; refine HN.out.mono ?_; rintro en w' ⟨rfl, rfl⟩)
    go_ret2
    exact ⟨by rw [HT.out]; rfl, rfl⟩
  | some x =>
    obtain ⟨u, k⟩ := x
    rw [hd] at HN
    simp only [numV] at HN
    have hk := dec_le _ _ _ _ _ hd
    have hu := dec_lt _ 0 0 u k (by decide) hd
    by_cases hneg : most < 0
    · have HT := hide (sizeR_no (most := most) hd (.inl hneg))
      clear hr hl hd hk
      go_enter Try.func47, Try.ntmps47
      go_wp2_with (go_at_call 48; refine HN.out.mono ?_; rintro en w' ⟨rfl, rfl⟩)
      go_ret2
      exact ⟨by rw [HT.out]; rfl, rfl⟩
    · obtain ⟨m, rfl⟩ := Int.eq_ofNat_of_zero_le (a := most) (by omega)
      clear hm1 hneg
      by_cases hum : m < u
      · have HT := hide (sizeR_no (most := m) hd (.inr (by omega)))
        clear hr hl hd hk
        go_enter Try.func47, Try.ntmps47
        go_wp2_with (go_at_call 48; refine HN.out.mono ?_; rintro en w' ⟨rfl, rfl⟩)
        go_ret2
        exact ⟨by rw [HT.out]; rfl, rfl⟩
      · have HT := hide (sizeR_ok (most := m) hd (by omega))
        have hu2 : u ≤ m := by omega
        clear hr hl hd hk hum hu
        go_enter Try.func47, Try.ntmps47
        go_wp2_with (go_at_call 48; refine HN.out.mono ?_; rintro en w' ⟨rfl, rfl⟩)
        go_ret2
        exact ⟨by rw [HT.out]; simp [sizeV], rfl⟩

theorem size_cut {w : World} {B : Nat} {A : Option Addr} {bs : List UInt8} {c at_ b1 b2 : Nat} {most : Int} (r : Value) (hm1 : -9223372036854775808 ≤ most) (hm2 : most ≤ 9223372036854775807) (hr : Rd w B A (by8 bs)) (h1 : bs.length ≤ c) (h2 : c ≤ maxLen) (h3 : at_ ≤ bs.length) (c1 : w.cell? ⟨b1, 0, none⟩ = some r) (c2 : w.cell? ⟨b2, 0, none⟩ = some (.int .i64 most)) (nq : Nat) :
    Calls Try.prog 47 #[.slice (if c = at_ then A else A.map (·.add at_)) (bs.length - at_) (c - at_), .pointer (some ⟨b1, 0, none⟩), .pointer (some ⟨b2, 0, none⟩)] (w.drewN nq) fun e w' => e = .returned (sizeV (sizeR (bs.drop at_) most)) ∧ w' = w.drewN nq :=
  (size1_any r b1 b2 most _ _ _ B (bs.drop at_) (w.drewN nq) (by simp) (by omega) (by omega) hm1 hm2 (by rw [by8_drop]; exact Rd.cut (w := w) hr (by rw [by8_length]; exact h1)) c1 c2).mono fun _ _ ⟨a, b⟩ => ⟨a, b.symm⟩

section
variable (g : Nat) (bs : List UInt8) (at_ : Nat) (w : World) (b1 b2 : Nat) (most : Int) (hm1 : -9223372036854775808 ≤ most) (hm2 : most ≤ 9223372036854775807) (c1 : w.cell? ⟨b1, 0, none⟩ = some (.pointer (some ⟨g, 0, none⟩))) (c2 : w.cell? ⟨b2, 0, none⟩ = some (.int .i64 most))
include hm1 hm2 c1 c2
set_option maxRecDepth 100000 in
set_option maxHeartbeats 400000 in
theorem takeN_bad (h : RD w g bs at_ 0) (hd : sizeR (bs.drop at_) most = none) :
    Calls Try.prog 46 #[.pointer (some ⟨g, 0, none⟩), .func (.func 47) #[] #[.pointer (some ⟨b1, 0, none⟩), .pointer (some ⟨b2, 0, none⟩)]] w (RDRet (.int .i64 0) w g bs at_ 20) := by
  obtain ⟨A, c, ⟨d0, d1, d2⟩, hf, h1, h2, h3, h4, hr⟩ := h.parts
  have HN := hide (size_cut (.pointer (some ⟨g, 0, none⟩)) hm1 hm2 hr h1 h2 h3 c1 c2)
  rw [hd] at HN
  simp only [sizeV] at HN
  have H := hide h
  clear h hr hd c1 c2
  go_enter Try.func46, Try.ntmps46
  go_wp2_with (fail)
  go_quiet ((go_at_call 47; exact Calls.quiet_of_same (HN.out _)))
  go_wp2
  all_goals
    go_ret
    exact ⟨rfl, (H.out.drewN _).set2 20, ((Fr.refl _ _).drewN _).put _ _⟩

set_option maxRecDepth 100000 in
set_option maxHeartbeats 400000 in
theorem takeN_ok (u k : Nat) (h : RD w g bs at_ 0) (hd : sizeR (bs.drop at_) most = some (u, k)) (hk1 : at_ + k ≤ bs.length) :
    Calls Try.prog 46 #[.pointer (some ⟨g, 0, none⟩), .func (.func 47) #[] #[.pointer (some ⟨b1, 0, none⟩), .pointer (some ⟨b2, 0, none⟩)]] w (RDRet (.int .i64 u) w g bs (at_ + k) 0) := by
  obtain ⟨A, c, ⟨d0, d1, d2⟩, hf, h1, h2, h3, h4, hr⟩ := h.parts
  have HN := hide (size_cut (.pointer (some ⟨g, 0, none⟩)) hm1 hm2 hr h1 h2 h3 c1 c2)
  rw [hd] at HN
  simp only [sizeV] at HN
  have H := hide h
  clear h hr hd c1 c2
  go_enter Try.func46, Try.ntmps46
  go_wp2_with (fail)
  go_quiet ((go_at_call 47; exact Calls.quiet_of_same (HN.out _)))
  go_wp2
  all_goals
    go_ret
    exact ⟨rfl, (H.out.drewN _).set1 _ hk1, ((Fr.refl _ _).drewN _).put _ _⟩
end

set_option maxRecDepth 100000 in
set_option maxHeartbeats 400000 in
theorem takeN_off (g : Nat) (bs : List UInt8) (at_ : Nat) (e : Int) (w : World) (f : Value) (h : RD w g bs at_ e) (he : e ≠ 0) :
    Calls Try.prog 46 #[.pointer (some ⟨g, 0, none⟩), f] w (RDRet (.int .i64 0) w g bs at_ e) := by
  obtain ⟨A, c, ⟨c0, c1, c2⟩, hf, h1, h2, h3, h4, hr⟩ := h.parts
  have hb : (e != 0) = true := by simpa using he
  have H := hide h
  clear h hr he
  go_enter Try.func46, Try.ntmps46
  go_wp2_with (fail)
  go_ret
  exact ⟨rfl, H.out, Fr.refl _ _⟩

set_option maxRecDepth 100000 in
set_option maxHeartbeats 400000 in
theorem takeN_nil (w : World) (f : Value) :
    Calls Try.prog 46 #[.pointer none, f] w (Ret (.int .i64 0) w) := by
  go_enter Try.func46, Try.ntmps46
  go_wp2_with (fail)
  go_ret
  exact ⟨rfl, rfl⟩

theorem takeN_all (g : Nat) (bs : List UInt8) (a : Nat) (e : Int) (w : World) (b1 b2 : Nat) (most : Int) (hm1 : -9223372036854775808 ≤ most) (hm2 : most ≤ 9223372036854775807) (c1 : w.cell? ⟨b1, 0, none⟩ = some (.pointer (some ⟨g, 0, none⟩))) (c2 : w.cell? ⟨b2, 0, none⟩ = some (.int .i64 most)) (h : RD w g bs a e) :
    Calls Try.prog 46 #[.pointer (some ⟨g, 0, none⟩), .func (.func 47) #[] #[.pointer (some ⟨b1, 0, none⟩), .pointer (some ⟨b2, 0, none⟩)]] w (RDRet (.int .i64 (sizeS bs a e most).1) w g bs (sizeS bs a e most).2.1 (sizeS bs a e most).2.2) := by
  unfold sizeS
  by_cases he : e = 0
  · subst he
    rw [if_pos rfl]
    cases hd : sizeR (bs.drop a) most with
    | none => exact takeN_bad g bs a w b1 b2 most hm1 hm2 c1 c2 h hd
    | some x => exact takeN_ok g bs a w b1 b2 most hm1 hm2 c1 c2 x.1 x.2 h hd (by
        have h1 := sizeR_le (u := x.1) (k := x.2) hd
        obtain ⟨_, _, _, _, _, h3, _⟩ := h
        simp at h1
        omega)
  · rw [if_neg he]
    exact takeN_off g bs a e w _ h he

set_option maxRecDepth 100000 in
set_option maxHeartbeats 400000 in
theorem sizeN_any (g : Nat) (bs : List UInt8) (a : Nat) (e most : Int) (w : World) (h : RD w g bs a e) (hm1 : -9223372036854775808 ≤ most) (hm2 : most ≤ 9223372036854775807) :
    Calls Try.prog 30 #[.pointer (some ⟨g, 0, none⟩), .int .i64 most] w (RDRet (.int .i64 (sizeS bs a e most).1) w g bs (sizeS bs a e most).2.1 (sizeS bs a e most).2.2) := by
  have H := hide (fun t1 t2 => takeN_all g bs a e _ w.heap.size (w.heap.size + 1) most hm1 hm2 (box1 w (.pointer (some ⟨g, 0, none⟩)) (.int .i64 most) t1 t2) (box2 w (.pointer (some ⟨g, 0, none⟩)) (.int .i64 most) t1 t2) (h.fr0 (((Fr.refl No w).alloc _).alloc _)))
  clear h
  generalize sizeS bs a e most = x at H
  go_enter Try.func30, Try.ntmps30
  go_wp2_with (go_at_call 46; refine (H.out _ _).mono ?_; rintro en w' ⟨rfl, hq⟩; have HQ := hide hq; clear hq)
  go_ret
  exact ⟨rfl, HQ.out.1, (((Fr.refl (Is g) w).alloc _).alloc _).ts HQ.out.2⟩

set_option maxRecDepth 100000 in
set_option maxHeartbeats 400000 in
theorem size_nil (most : Int) (w : World) :
    Calls Try.prog 30 #[.pointer none, .int .i64 most] w (fun en w' => en = .returned (.int .i64 0) ∧ Fr No w w') := by
  go_enter Try.func30, Try.ntmps30
  go_wp2_with (go_at_call 46; refine (takeN_nil _ _).mono ?_; rintro en w' ⟨rfl, rfl⟩)
  go_ret
  exact ⟨rfl, ((Fr.refl No w).alloc _).alloc _⟩

end Go.Proofs.Ytpopbkcbplmcaaa
namespace Go.Proofs.Ytpopbkcbplmcaaa
set_option linter.unusedVariables false
set_option linter.unusedSimpArgs false
open Go.RowKit

set_option maxRecDepth 100000 in
set_option maxHeartbeats 800000 in
theorem bytes1_bad (b2 : Nat) (x : Int) (A : Option Addr) (n c : Nat) (W : World) (hn : n ≤ c) (hc : c ≤ maxLen) (hx : x < 0 ∨ (n : Int) < x) (c2 : W.cell? ⟨b2, 0, none⟩ = some (.int .i64 x)) :
    Calls Try.prog 62 #[.slice A n c, .pointer (some ⟨b2, 0, none⟩)] W (Ret (.tuple #[.slice none 0 0, .int .i64 (-1)]) W) := by
  unfold maxLen at hc
  by_cases h0 : x < 0
  all_goals
    go_enter Try.func62, Try.ntmps62
    go_wp2
    go_ret2
    exact ⟨rfl, rfl⟩

set_option maxRecDepth 100000 in
set_option maxHeartbeats 800000 in
theorem bytes1_ok (b2 k : Nat) (A : Option Addr) (n c B : Nat) (t : List UInt8) (W : World) (hk : k ≤ n) (hn : n ≤ c) (hc : c ≤ maxLen) (hb : n ≤ 140737488355328) (hB : B ≤ W.heap.size) (ht : t.length = k) (hr : Rd W B A (by8 t)) (c2 : W.cell? ⟨b2, 0, none⟩ = some (.int .i64 k)) :
    Calls Try.prog 62 #[.slice A n c, .pointer (some ⟨b2, 0, none⟩)] W (fun en w' => ∃ v, en = .returned (.tuple #[v, .int .i64 k]) ∧ Own w' W.heap.size 5 1 v k (by8 t) ∧ Fr No W w') := by
  have HC := hide hc
  unfold maxLen at hc
  have HR := hide hr
  have HB := hide hB
  have HT := hide ht
  have hkc : k ≤ c := by omega
  have hkb : k ≤ 140737488355328 := by omega
  clear hr hB ht
  go_enter Try.func62, Try.ntmps62
  go_wp2
  go_region_with (first
    | (go_at_call 45; refine (clone_any A k c B t _ HT.out hkc HC.out hkb ?_ ?_).mono ?_; exact HB.out; exact HR.out; rintro en w1 ⟨v1, rfl, hown, hfr⟩; obtain ⟨A1, c1, rfl, hq1, hq2, _⟩ := hown.form; have c2' : w1.cell? ⟨b2, 0, none⟩ = some (.int .i64 k) := hfr.cell (p := ⟨b2, 0, none⟩) c2 (fun h => h); have HO : Hid (Own w1 W.heap.size 5 1 (.slice A1 t.length c1) t.length (by8 t)) := hown; have HF : Hid (Fr No W w1) := ⟨hfr.os, hfr.tape, hfr.output, hfr.size, hfr.block⟩; clear hown hfr)
    | (go_at_call 63; refine (clip_any A1 t.length c1 _ hq1 hq2).mono ?_; rintro en w2 ⟨rfl, rfl⟩))
  all_goals (try go_wp2)
  all_goals go_ret2
  all_goals
    refine ⟨_, rfl, ?_, ?_⟩
    · have h := HO.out.clip
      rw [HT.out] at h
      rw [HT.out]
      exact h
    · exact HF.out

/-- bytes of a reader: new ones. -/
def GivesRB (s : List UInt8) (w : World) (g : Nat) (bs : List UInt8) (a : Nat) (e : Int) (en : Ending) (w' : World) : Prop :=
  ∃ v, en = .returned v ∧ Own w' w.heap.size 5 1 v s.length (by8 s) ∧ RD w' g bs a e ∧ Fr (Is g) w w'

/-- .., and the reader's bytes lie where they lay. -/
def Same0 (w : World) (g : Nat) (w' : World) : Prop := w'.cell? ⟨g, 0, none⟩ = w.cell? ⟨g, 0, none⟩

def RDRetC (v : Value) (w : World) (g : Nat) (bs : List UInt8) (a : Nat) (e : Int) (en : Ending) (w' : World) : Prop := RDRet v w g bs a e en w' ∧ Same0 w g w'

def GivesRC (s : List UInt8) (w : World) (g : Nat) (bs : List UInt8) (a : Nat) (e : Int) (en : Ending) (w' : World) : Prop := GivesRB s w g bs a e en w' ∧ Same0 w g w'

theorem Same0.put {w w' : World} {g : Nat} (h : Same0 w g w') (i : Nat) (hi : i ≠ 0) (v : Value) : Same0 w g (w'.setCell ⟨g, i, none⟩ v) :=
  (World.cell?_setCell_other w' ⟨g, i, none⟩ ⟨g, 0, none⟩ v (by intro h; injection h; exact hi (by assumption))).trans h

theorem Same0.fr {w w' : World} {g : Nat} {v : Value} (h : w.cell? ⟨g, 0, none⟩ = some v) (f : Fr No w w') : Same0 w g w' := (f.cell (p := ⟨g, 0, none⟩) h (fun h => h)).trans h.symm

theorem Same0.drewN (w : World) (g n : Nat) : Same0 w g (w.drewN n) := rfl

set_option maxRecDepth 100000 in
set_option maxHeartbeats 400000 in
theorem takeB_bad (g : Nat) (bs : List UInt8) (a b2 : Nat) (x : Int) (w : World) (h : RD w g bs a 0) (c2 : w.cell? ⟨b2, 0, none⟩ = some (.int .i64 x)) (hx : x < 0 ∨ ((bs.length - a : Nat) : Int) < x) :
    Calls Try.prog 61 #[.pointer (some ⟨g, 0, none⟩), .func (.func 62) #[] #[.pointer (some ⟨b2, 0, none⟩)]] w (RDRetC (.slice none 0 0) w g bs a 20) := by
  obtain ⟨A, c, ⟨d0, d1, d2⟩, hf, h1, h2, h3, h4, hr⟩ := h.parts
  have HN : Hid (∀ nq, Calls Try.prog 62 #[.slice (if c = a then A else A.map (·.add a)) (bs.length - a) (c - a), .pointer (some ⟨b2, 0, none⟩)] (w.drewN nq) fun e w' => e = .returned (.tuple #[.slice none 0 0, .int .i64 (-1)]) ∧ w' = w.drewN nq) := fun nq =>
    (bytes1_bad b2 x _ _ _ (w.drewN nq) (by omega) (by omega) hx c2).mono fun _ _ ⟨p, q⟩ => ⟨p, q.symm⟩
  have H := hide h
  clear h hr hx c2
  go_enter Try.func61, Try.ntmps61
  go_wp2_with (fail)
  go_quiet ((go_at_call 62; exact Calls.quiet_of_same (HN.out _)))
  go_wp2
  all_goals
    go_ret
    exact ⟨⟨rfl, (H.out.drewN _).set2 20, ((Fr.refl _ _).drewN _).put _ _⟩, (Same0.drewN _ _ _).put 2 (by omega) _⟩

set_option maxRecDepth 100000 in
set_option maxHeartbeats 800000 in
theorem takeB_ok (g : Nat) (bs : List UInt8) (a b2 k : Nat) (w : World) (h : RD w g bs a 0) (c2 : w.cell? ⟨b2, 0, none⟩ = some (.int .i64 k)) (hk : a + k ≤ bs.length) :
    Calls Try.prog 61 #[.pointer (some ⟨g, 0, none⟩), .func (.func 62) #[] #[.pointer (some ⟨b2, 0, none⟩)]] w (GivesRC ((bs.drop a).take k) w g bs (a + k) 0) := by
  obtain ⟨A, c, ⟨d0, d1, d2⟩, hf, h1, h2, h3, h4, hr⟩ := h.parts
  have htl : ((bs.drop a).take k).length = k := by simp; omega
  have hrt : Rd w w.heap.size (if c = a then A else A.map (·.add a)) (by8 ((bs.drop a).take k)) := by
    rw [by8_take, by8_drop]
    exact (hr.cut (by rw [by8_length]; exact h1)).tk k
  have HN : Hid (∀ w', w'.heap = w.heap → Calls Try.prog 62 #[.slice (if c = a then A else A.map (·.add a)) (bs.length - a) (c - a), .pointer (some ⟨b2, 0, none⟩)] w' (fun en w2 => ∃ v, en = .returned (.tuple #[v, .int .i64 k]) ∧ Own w2 w'.heap.size 5 1 v k (by8 ((bs.drop a).take k)) ∧ Fr No w' w2)) := by
    intro w' hw
    have hcell : ∀ p, w'.cell? p = w.cell? p := fun p => by simp [World.cell?, hw]
    refine bytes1_ok b2 k _ _ _ w'.heap.size _ w' (by omega) (by omega) (by omega) (by omega) (Nat.le_refl _) htl ?_ (by rw [hcell]; exact c2)
    intro j u hu
    obtain ⟨ad, e, hb, hcc⟩ := hrt j u hu
    exact ⟨ad, e, by rw [hw]; exact hb, by rw [hcell]; exact hcc⟩
  have H := hide h
  have HTL := hide htl
  generalize (bs.drop a).take k = t at HN HTL
  clear h hr hrt c2 htl
  by_cases hca : c = a
  · have HN1 := HN.out
    rw [if_pos hca, hca, Nat.sub_self] at HN1
    have HN2 := hide HN1
    clear HN HN1
    go_enter Try.func61, Try.ntmps61
    go_wp2_with (fail)
    go_region_with (go_at_call 62; refine (HN2.out w.drew rfl).mono ?_; rintro en w1 ⟨v1, rfl, hown, hfr⟩; have HO : Hid (Own w1 w.heap.size 5 1 v1 k (by8 t)) := hown; have HF : Hid (Fr No w w1) := ⟨hfr.os, hfr.tape, hfr.output, hfr.size, hfr.block⟩; clear hown hfr; have HR1 := hide (H.out.fr0 HF.out); obtain ⟨A1, k1, ⟨e0, e1, e2⟩, hf1, _⟩ := HR1.out.parts)
    all_goals (try go_wp2)
    all_goals go_ret
    all_goals
      refine ⟨⟨_, rfl, ?_, HR1.out.set1 _ hk, (HF.out.any (Is g)).put _ _⟩, (Same0.fr d0 HF.out).put 1 (by omega) _⟩
      rw [HTL.out]
      refine HO.out.fr ((Fr.refl (Is g) w1).put 1 _) ?_
      rintro g' hg' rfl
      obtain ⟨_, _, hh, _⟩ := HR1.out
      exact HO.out.ne_blk hg' hh (by decide)
  · have HN1 := HN.out
    rw [if_neg hca] at HN1
    have HN2 := hide HN1
    clear HN HN1
    go_enter Try.func61, Try.ntmps61
    go_wp2_with (fail)
    go_region_with (go_at_call 62; refine (HN2.out w.drew rfl).mono ?_; rintro en w1 ⟨v1, rfl, hown, hfr⟩; have HO : Hid (Own w1 w.heap.size 5 1 v1 k (by8 t)) := hown; have HF : Hid (Fr No w w1) := ⟨hfr.os, hfr.tape, hfr.output, hfr.size, hfr.block⟩; clear hown hfr; have HR1 := hide (H.out.fr0 HF.out); obtain ⟨A1, k1, ⟨e0, e1, e2⟩, hf1, _⟩ := HR1.out.parts)
    all_goals (try go_wp2)
    all_goals go_ret
    all_goals
      refine ⟨⟨_, rfl, ?_, HR1.out.set1 _ hk, (HF.out.any (Is g)).put _ _⟩, (Same0.fr d0 HF.out).put 1 (by omega) _⟩
      rw [HTL.out]
      refine HO.out.fr ((Fr.refl (Is g) w1).put 1 _) ?_
      rintro g' hg' rfl
      obtain ⟨_, _, hh, _⟩ := HR1.out
      exact HO.out.ne_blk hg' hh (by decide)

set_option maxRecDepth 100000 in
set_option maxHeartbeats 400000 in
theorem takeB_off (g : Nat) (bs : List UInt8) (at_ : Nat) (e : Int) (w : World) (f : Value) (h : RD w g bs at_ e) (he : e ≠ 0) :
    Calls Try.prog 61 #[.pointer (some ⟨g, 0, none⟩), f] w (RDRetC (.slice none 0 0) w g bs at_ e) := by
  obtain ⟨A, c, ⟨c0, c1, c2⟩, hf, h1, h2, h3, h4, hr⟩ := h.parts
  have hb : (e != 0) = true := by simpa using he
  have H := hide h
  clear h hr he
  go_enter Try.func61, Try.ntmps61
  go_wp2_with (fail)
  go_ret
  exact ⟨⟨rfl, H.out, Fr.refl _ _⟩, rfl⟩

set_option maxRecDepth 100000 in
set_option maxHeartbeats 400000 in
theorem takeB_nil (w : World) (f : Value) :
    Calls Try.prog 61 #[.pointer none, f] w (Ret (.slice none 0 0) w) := by
  go_enter Try.func61, Try.ntmps61
  go_wp2_with (fail)
  go_ret
  exact ⟨rfl, rfl⟩

theorem GivesRB.nil {w : World} {g : Nat} {bs : List UInt8} {a : Nat} {e : Int} {en : Ending} {w' : World} (h : RDRet (.slice none 0 0) w g bs a e en w') : GivesRB [] w g bs a e en w' :=
  ⟨_, h.1, Own.nil _ _ _ _, h.2.1, h.2.2⟩

theorem GivesRC.nil {w : World} {g : Nat} {bs : List UInt8} {a : Nat} {e : Int} {en : Ending} {w' : World} (h : RDRetC (.slice none 0 0) w g bs a e en w') : GivesRC [] w g bs a e en w' := ⟨GivesRB.nil h.1, h.2⟩

theorem takeB_all (g : Nat) (bs : List UInt8) (a b2 : Nat) (e x : Int) (w : World) (h : RD w g bs a e) (c2 : w.cell? ⟨b2, 0, none⟩ = some (.int .i64 x)) :
    Calls Try.prog 61 #[.pointer (some ⟨g, 0, none⟩), .func (.func 62) #[] #[.pointer (some ⟨b2, 0, none⟩)]] w (GivesRC (bytesS bs a e x).1 w g bs (bytesS bs a e x).2.1 (bytesS bs a e x).2.2) := by
  unfold bytesS
  by_cases he : e = 0
  · subst he
    rw [if_pos rfl]
    unfold bytesR
    by_cases hx : x < 0 ∨ ((bs.drop a).length : Int) < x
    · rw [if_pos hx]
      exact (takeB_bad g bs a b2 x w h c2 (by simpa using hx)).mono fun _ _ h => GivesRC.nil h
    · rw [if_neg hx]
      obtain ⟨k, rfl⟩ := Int.eq_ofNat_of_zero_le (a := x) (by omega)
      exact takeB_ok g bs a b2 k w h c2 (by
        obtain ⟨_, _, _, _, _, h3, _⟩ := h
        simp at hx
        omega)
  · rw [if_neg he]
    exact (takeB_off g bs a e w _ h he).mono fun _ _ h => GivesRC.nil h

set_option maxRecDepth 100000 in
set_option maxHeartbeats 400000 in
theorem bytes_anyC (g : Nat) (bs : List UInt8) (a : Nat) (e x : Int) (w : World) (h : RD w g bs a e) :
    Calls Try.prog 49 #[.pointer (some ⟨g, 0, none⟩), .int .i64 x] w (GivesRC (bytesS bs a e x).1 w g bs (bytesS bs a e x).2.1 (bytesS bs a e x).2.2) := by
  have H := hide (fun t => takeB_all g bs a w.heap.size e x _ (h.fr0 ((Fr.refl No w).alloc _)) (box0 w (.int .i64 x) t))
  have H00 : Hid (∀ t, (w.alloc (.cells #[.int .i64 x] t)).cell? ⟨g, 0, none⟩ = w.cell? ⟨g, 0, none⟩) := fun t => by
    obtain ⟨_, _, ⟨q, _⟩, _⟩ := h.parts
    exact Same0.fr q ((Fr.refl No w).alloc _)
  clear h
  generalize bytesS bs a e x = y at H
  go_enter Try.func49, Try.ntmps49
  go_wp2_with (go_at_call 61; refine (H.out _).mono ?_; rintro en w' ⟨⟨v, rfl, hq⟩, h0⟩; have HQ := hide hq; have H0 : Hid (Same0 w g w') := hide (h0.trans (H00.out _)); clear hq h0)
  go_ret
  exact ⟨⟨_, rfl, HQ.out.1.lower (by simp), HQ.out.2.1, ((Fr.refl (Is g) w).alloc _).ts HQ.out.2.2⟩, H0.out⟩

theorem bytes_any (g : Nat) (bs : List UInt8) (a : Nat) (e x : Int) (w : World) (h : RD w g bs a e) :
    Calls Try.prog 49 #[.pointer (some ⟨g, 0, none⟩), .int .i64 x] w (GivesRB (bytesS bs a e x).1 w g bs (bytesS bs a e x).2.1 (bytesS bs a e x).2.2) := (bytes_anyC g bs a e x w h).mono fun _ _ h => h.1

set_option maxRecDepth 100000 in
set_option maxHeartbeats 400000 in
theorem bytes_nil (x : Int) (w : World) :
    Calls Try.prog 49 #[.pointer none, .int .i64 x] w (fun en w' => en = .returned (.slice none 0 0) ∧ Fr No w w') := by
  go_enter Try.func49, Try.ntmps49
  go_wp2_with (go_at_call 61; refine (takeB_nil _ _).mono ?_; rintro en w' ⟨rfl, rfl⟩)
  go_ret
  exact ⟨rfl, (Fr.refl No w).alloc _⟩

/-- where a reader's bytes lie: below M. -/
def At0 (w : World) (g M : Nat) : Prop := ∀ A n c, w.cell? ⟨g, 0, none⟩ = some (.slice A n c) → ∀ k, (Value.slice A n c).ownBlock = some k → k < M

theorem At0.of {w : World} {g : Nat} {bs : List UInt8} {a : Nat} {e : Int} (h : RD w g bs a e) : At0 w g w.heap.size := by
  obtain ⟨A, c, hh, h1, h2, h3, h4, ho⟩ := h
  intro A' n' c' hc k hk
  rw [cell_of_row w g 0 _ _ (0, 0) hh] at hc
  have : Value.slice A bs.length c = .slice A' n' c' := by simpa using hc
  rw [← this] at hk
  exact (ho.lt k hk).2

theorem At0.same {w w' : World} {g M : Nat} (h : At0 w g M) (f : Same0 w g w') : At0 w' g M := by
  intro A n c hc k hk
  exact h A n c (f.symm.trans hc) k hk

/-- stores into blocks from M on leave a reader alone, if it and its bytes lie below M. -/
theorem RD.above {S : Nat → Prop} {w w' : World} {g M : Nat} {bs : List UInt8} {a : Nat} {e : Int} (h : RD w g bs a e) (h0 : At0 w g M) (hg : g < M) (f : Fr S w w') (hS : ∀ k, k < M → ¬ S k) : RD w' g bs a e := by
  obtain ⟨A, c, hh, h1, h2', h3, h4, ho⟩ := h
  refine ⟨A, c, f.blk hh (hS g hg), h1, h2', h3, h4, ho.fr f ?_⟩
  intro k hk
  exact hS k (h0 A bs.length c (by rw [cell_of_row w g 0 _ _ (0, 0) hh]; rfl) k hk)

end Go.Proofs.Ytpopbkcbplmcaaa
namespace Go.Proofs.Ytpopbkcbplmcaaa
set_option linter.unusedVariables false
set_option linter.unusedSimpArgs false
open Go.RowKit

set_option maxRecDepth 100000 in
set_option maxHeartbeats 400000 in
theorem bgood_ok (w : World) : Calls Try.prog 31 #[.bool true] w (fun en w' => (∃ r, en = .returned r) ∧ w = w') := by
  go_enter Try.func31, Try.ntmps31
  go_wp2
  go_end0
  exact ⟨⟨_, rfl⟩, rfl⟩
set_option maxRecDepth 100000 in
set_option maxHeartbeats 400000 in
theorem bgood_bad (w : World) : Calls Try.prog 31 #[.bool false] w (fun en w' => en = .panicked [{ v := .iface 63 (.agg #[]), recovered := false }] ∧ w = w') := by
  go_enter Try.func31, Try.ntmps31
  go_wp2
  first | exact ⟨rfl, rfl⟩ | (unfold bodyPost; exact ⟨rfl, rfl⟩) | (simp [bodyPost])
def chainB : List PanicEntry := [{ v := .iface 63 (.agg #[]), recovered := false }]

/-- cells that are read, in blocks of a set. -/
def RdN (w : World) (N : Nat → Prop) (A : Option Addr) (l : List Value) : Prop := ∀ (j : Nat) u, l[j]? = some u → ∃ ad, A = some ad ∧ N ad.block ∧ w.cell? (ad.add j) = some u
theorem RdN.fr {S N : Nat → Prop} {w w' : World} {A : Option Addr} {l : List Value} (h : RdN w N A l) (f : Fr S w w') (hS : ∀ k, N k → ¬ S k) : RdN w' N A l := fun j u hu => by
  obtain ⟨ad, h1, h2, h3⟩ := h j u hu
  exact ⟨ad, h1, h2, f.cell h3 (by rw [block_of_add]; exact hS _ h2)⟩
theorem RdN.mono {N N' : Nat → Prop} {w : World} {A : Option Addr} {l : List Value} (h : RdN w N A l) (hN : ∀ k, N k → N' k) : RdN w N' A l := fun j u hu => by
  obtain ⟨ad, h1, h2, h3⟩ := h j u hu
  exact ⟨ad, h1, hN _ h2, h3⟩
theorem RdN.rd {N : Nat → Prop} {w : World} {B : Nat} {A : Option Addr} {l : List Value} (h : RdN w N A l) (hN : ∀ k, N k → k < B) : Rd w B A l := h.mono hN
/-- blocks of numbers in a part of the memory. -/
def InT (w : World) (lo hi k : Nat) : Prop := lo ≤ k ∧ k < hi ∧ ∃ cs fz, w.heap[k]? = some (.cells cs 2 fz)
theorem InT.fr {S : Nat → Prop} {w w' : World} {lo hi k : Nat} (h : InT w lo hi k) (f : Fr S w w') (hS : ¬ S k) : InT w' lo hi k := by
  obtain ⟨h1, h2, cs, fz, h3⟩ := h
  exact ⟨h1, h2, cs, fz, f.blk h3 hS⟩
/-- a point's numbers are read. -/
def PtN (w : World) (N : Nat → Prop) (p : PoL) : Prop := p.1.2.length ≤ p.2.2 ∧ p.2.2 ≤ maxLen ∧ RdN w N p.2.1 (iz .i64 p.1.2)
theorem PtN.fr {S N : Nat → Prop} {w w' : World} {p : PoL} (h : PtN w N p) (f : Fr S w w') (hS : ∀ k, N k → ¬ S k) : PtN w' N p := ⟨h.1, h.2.1, h.2.2.fr f hS⟩
theorem PtN.mono {N N' : Nat → Prop} {w : World} {p : PoL} (h : PtN w N p) (hN : ∀ k, N k → N' k) : PtN w N' p := ⟨h.1, h.2.1, h.2.2.mono hN⟩
theorem PtN.off {S : Nat → Prop} {w w' : World} {lo hi : Nat} {p : PoL} (h : PtN w (InT w lo hi) p) (f : Fr S w w') (ho : Off S w 2) : PtN w' (InT w' lo hi) p := by
  have hS : ∀ k, InT w lo hi k → ¬ S k := fun k ⟨_, _, cs, fz, hk⟩ => ho k cs fz hk
  exact (h.fr f hS).mono fun k hk => hk.fr f (hS k hk)
theorem PtN.fr0 {w w' : World} {lo hi : Nat} {p : PoL} (h : PtN w (InT w lo hi) p) (f : Fr No w w') : PtN w' (InT w' lo hi) p := h.off f (fun _ _ _ _ h => h)
theorem PtN.up {w : World} {lo hi hi' : Nat} {p : PoL} (h : PtN w (InT w lo hi) p) (hh : hi ≤ hi') : PtN w (InT w lo hi') p := h.mono fun k ⟨h1, h2, h3⟩ => ⟨h1, by omega, h3⟩
/-- .. and a row of numbers is written that lies above. -/
theorem PtN.above {S : Nat → Prop} {w w' : World} {lo hi : Nat} {p : PoL} (h : PtN w (InT w lo hi) p) (f : Fr S w w') (hS : ∀ k, S k → hi ≤ k) : PtN w' (InT w' lo hi) p := by
  have hS' : ∀ k, InT w lo hi k → ¬ S k := fun k ⟨_, h2, _⟩ hs => by have := hS k hs; omega
  exact (h.fr f hS').mono fun k hk => hk.fr f (hS' k hk)
/-- a point whose numbers are the call's own. -/
theorem PtN.own {w : World} {b lo n c : Nat} {A : Option Addr} {p : Pt} (h : Own w b 2 1 (.slice A n c) n (iz .i64 p.2)) (hl : lo ≤ b) : PtN w (InT w lo w.heap.size) (p, A, c) := by
  have h1 := h.le
  have hn : p.2.length = n := by have := h.1; simp [iz] at this; omega
  refine ⟨by rw [hn]; exact h1.2.1, h1.2.2, fun j u hu => ?_⟩
  obtain ⟨ad, e, h2, h3⟩ := h.rd j u hu
  refine ⟨ad, e, ?_, h3⟩
  subst e
  obtain ⟨h4, cs, fz, h5⟩ := h.cellsT (k := ad.block) rfl
  exact ⟨by omega, h2, cs, fz, h5⟩
/-- blocks that are left alone while nodes are read. -/
def Done (w : World) (g gr : Nat) (v : Value) (k : Nat) : Prop := k < w.heap.size ∧ k ≠ g ∧ k ≠ gr ∧ v.ownBlock ≠ some k
/-- blocks that are written. -/
def S3 (g gr : Nat) (v : Value) (k : Nat) : Prop := k = g ∨ k = gr ∨ v.ownBlock = some k
theorem Done.no {w : World} {g gr k : Nat} {v : Value} (h : Done w g gr v k) : ¬ S3 g gr v k := by
  rintro (e | e | e)
  · exact h.2.1 e
  · exact h.2.2.1 e
  · exact h.2.2.2 e
theorem Done.next {w w' : World} {g gr k : Nat} {v v' : Value} (h : Done w g gr v k) (hz : w.heap.size ≤ w'.heap.size) (hv : ∀ j, v'.ownBlock = some j → v.ownBlock = some j ∨ w.heap.size ≤ j) : Done w' g gr v' k :=
  ⟨by have := h.1; omega, h.2.1, h.2.2.1, fun e => by
    rcases hv k e with h1 | h1
    · exact h.2.2.2 h1
    · have := h.1; omega⟩
/-- a tree in memory. -/
def TreeM (w : World) (N : Nat → Prop) : TreeT → Nat → Prop
  | .leaf l, g => N g ∧ ∃ A c ps, w.heap[g]? = some (.cells #[.slice A l.length c, .int .i64 0, .int .i64 0, .pointer none, .pointer none] 94 (0, 0)) ∧ l.length ≤ c ∧ c ≤ maxLen ∧ ps.map (·.1) = l ∧ RdN w N A (pFlat ps) ∧ ∀ p ∈ ps, PtN w N p
  | .cut d c a b, g => N g ∧ ∃ ga gb, w.heap[g]? = some (.cells #[.slice none 0 0, .int .i64 (d : Nat), .int .i64 c, .pointer (some ⟨ga, 0, none⟩), .pointer (some ⟨gb, 0, none⟩)] 94 (0, 0)) ∧ TreeM w N a ga ∧ TreeM w N b gb
theorem TreeM.fr {S N : Nat → Prop} {w w' : World} (f : Fr S w w') (hS : ∀ k, N k → ¬ S k) : ∀ {t : TreeT} {g : Nat}, TreeM w N t g → TreeM w' N t g
  | .leaf l, g, ⟨h1, A, c, ps, h2, h3, h4, h5, h6, h7⟩ => ⟨h1, A, c, ps, f.blk h2 (hS g h1), h3, h4, h5, h6.fr f hS, fun p hp => (h7 p hp).fr f hS⟩
  | .cut d c a b, g, ⟨h1, ga, gb, h2, h3, h4⟩ => ⟨h1, ga, gb, f.blk h2 (hS g h1), TreeM.fr f hS h3, TreeM.fr f hS h4⟩
theorem TreeM.mono {N N' : Nat → Prop} {w : World} (hN : ∀ k, N k → N' k) : ∀ {t : TreeT} {g : Nat}, TreeM w N t g → TreeM w N' t g
  | .leaf l, g, ⟨h1, A, c, ps, h2, h3, h4, h5, h6, h7⟩ => ⟨hN g h1, A, c, ps, h2, h3, h4, h5, h6.mono hN, fun p hp => (h7 p hp).mono hN⟩
  | .cut d c a b, g, ⟨h1, ga, gb, h2, h3, h4⟩ => ⟨hN g h1, ga, gb, h2, TreeM.mono hN h3, TreeM.mono hN h4⟩
/-- the reader of nodes: its bytes, its points. -/
structure ND (w : World) (base g gr dims : Nat) (bs : List UInt8) (a : Nat) (e : Int) (v : Value) (ps : List PoL) : Prop where
  rd : RD w g bs a e
  row : w.heap[gr]? = some (.cells #[.pointer (some ⟨g, 0, none⟩), .int .i64 (dims : Nat), v] 69 (0, 0))
  own : Own w base 44 2 v ps.length (pFlat ps)
  pts : ∀ p ∈ ps, PtN w (InT w 0 w.heap.size) p
section
variable {w w' : World} {base g gr dims a : Nat} {bs : List UInt8} {e : Int} {v : Value} {ps : List PoL}
theorem RD.blkB (h : RD w g bs a e) : ∃ cs fz, w.heap[g]? = some (.cells cs 87 fz) := by
  obtain ⟨A, c, hh, _⟩ := h
  exact ⟨_, _, hh⟩
theorem ND.ne (h : ND w base g gr dims bs a e v ps) : g ≠ gr := by
  rintro rfl
  obtain ⟨cs, fz, h1⟩ := h.rd.blkB
  rw [h.row] at h1
  injection h1 with h1
  injection h1 with _ h1 _
  exact absurd h1 (by decide)
theorem ND.vg (h : ND w base g gr dims bs a e v ps) : v.ownBlock ≠ some g := by
  obtain ⟨cs, fz, h1⟩ := h.rd.blkB
  exact fun hk => h.own.ne_blk hk h1 (by decide)
theorem ND.vgr (h : ND w base g gr dims bs a e v ps) : v.ownBlock ≠ some gr := fun hk => h.own.ne_blk hk h.row (by decide)
theorem ND.lt (h : ND w base g gr dims bs a e v ps) : g < w.heap.size ∧ gr < w.heap.size := ⟨h.rd.lt, (Array.getElem?_eq_some_iff.1 h.row).1⟩
theorem ND.fr0 (h : ND w base g gr dims bs a e v ps) (f : Fr No w w') : ND w' base g gr dims bs a e v ps :=
  ⟨h.rd.fr0 f, f.blk h.row (fun h => h), h.own.fr0 f, fun p hp => ((h.pts p hp).fr0 f).up f.size⟩
/-- the reader has gone on. -/
theorem ND.read {a' : Nat} {e' : Int} (h : ND w base g gr dims bs a e v ps) (f : Fr (Is g) w w') (hr : RD w' g bs a' e') : ND w' base g gr dims bs a' e' v ps := by
  obtain ⟨cs, fz, hh⟩ := h.rd.blkB
  exact ⟨hr, f.blk h.row (off_is hh (by decide) _ _ _ h.row), h.own.off f (off_is hh (by decide)), fun p hp => ((h.pts p hp).off f (off_is hh (by decide))).up f.size⟩
/-- something else is written. -/
theorem ND.off {S : Nat → Prop} (h : ND w base g gr dims bs a e v ps) (f : Fr S w w') (h1 : Off S w 87) (h2 : Off S w 5) (h3 : Off S w 69) (h4 : Off S w 44) (h5 : Off S w 2) : ND w' base g gr dims bs a e v ps :=
  ⟨h.rd.offT f h1 h2, f.blk h.row (h3 _ _ _ h.row), h.own.off f h4, fun p hp => ((h.pts p hp).off f h5).up f.size⟩
end
end Go.Proofs.Ytpopbkcbplmcaaa
namespace Go.Proofs.Ytpopbkcbplmcaaa
set_option linter.unusedVariables false
set_option linter.unusedSimpArgs false
open Go.RowKit

set_option maxRecDepth 100000 in
set_option maxHeartbeats 800000 in
theorem sameI64_any (A B : Option Addr) (n c m d b1 b2 : Nat) (xs ys : List Int) (w : World) (hx : xs.length = n) (hy : ys.length = m) (hn : n ≤ c) (hc : c ≤ maxLen) (hm : m ≤ d) (hd : d ≤ maxLen) (hr : Rd w b1 A (iz .i64 xs)) (hs : Rd w b2 B (iz .i64 ys)) :
    Calls Try.prog 27 #[.slice A n c, .slice B m d] w (RetQ (.bool (decide (xs = ys))) w) := by
  unfold maxLen at hc hd
  have HX := hide hx
  have HY := hide hy
  have HR := hide hr
  have HS := hide hs
  clear hx hy hr hs
  by_cases hnm : n = m
  · subst hnm
    have hb : ((n : Int) != n) = false := by simp
    go_enter Try.func27, Try.ntmps27
    go_wp2
    go_loopw [5] (fun i wr => ∃ k nq : Nat, k ≤ n ∧ i = .int .i64 k ∧ wr = w.drewN nq ∧ Hid (xs.take k = ys.take k)) (fun i _ => n - (intOf i).toNat)
    case atStart => exact ⟨0, 0, by omega, rfl, rfl, hide rfl⟩
    case round =>
      obtain ⟨k, nq, hk, rfl, rfl, HT⟩ := hrel
      by_cases hlt : k < n
      · have h1 : k < xs.length := by rw [HX.out]; exact hlt
        have h2 : k < ys.length := by rw [HY.out]; exact hlt
        obtain ⟨ad, rfl, _, hcell⟩ := HR.out.intAt h1
        obtain ⟨bd, rfl, _, hcell2⟩ := HS.out.intAt h2
        have HE := hide (fun he => take_succ_int h1 h2 HT.out he)
        have HN := hide (show xs.getD k 0 ≠ ys.getD k 0 → xs ≠ ys from fun h e => h (by rw [e]))
        clear h1 h2
        generalize xs.getD k 0 = x at hcell HE HN
        generalize ys.getD k 0 = y at hcell2 HE HN
        by_cases he : x = y
        · subst he
          have HE' := hide (HE.out rfl)
          clear HE
          have hb2 : (x != x) = false := by simp
          go_wp2
          go_quiet (fail)
          go_wp2
          go_round
          case rel => exact ⟨k + 1, _, by omega, by go_num, rfl, HE'⟩
          case measure => simp [intOf]; omega
        · have hb2 : (x != y) = true := by simpa using he
          have HF := hide (HN.out he)
          clear HN HE he
          go_wp2
          go_quiet (fail)
          go_wp2
          go_ret
          exact ⟨by simp [HF.out], _, World.drewN_drewN _ _ _⟩
      · have HF := hide (show xs = ys by
          have h := HT.out
          rwa [List.take_of_length_le (by rw [HX.out]; omega), List.take_of_length_le (by rw [HY.out]; omega)] at h)
        go_wp2
        go_ret
        exact ⟨by simp [HF.out], _, rfl⟩
  · have hb : ((n : Int) != m) = true := by simp; omega
    have HF := hide (show xs ≠ ys from fun e => hnm (by rw [← HX.out, ← HY.out, e]))
    go_enter Try.func27, Try.ntmps27
    go_wp2
    go_ret
    exact ⟨by simp [HF.out], 0, rfl⟩

theorem Try.infoKI64 : (Try.prog.info? 2).map (fun i => (i.zero, i.size, i.bytes)) = some (some (.int .i64 0), 1, 8) := by kernel_rfl
def GivesLentI64 (w : World) (xs : List Int) (en : Ending) (w' : World) : Prop :=
  ∃ A c, en = .returned (.slice A xs.length c) ∧ Own w' w.heap.size 2 1 (.slice A (xs.length + 1) c) (xs.length + 1) (iz .i64 (xs ++ [-7171])) ∧ Fr No w w'

set_option maxRecDepth 100000 in
set_option maxHeartbeats 800000 in
theorem lentI64_any (A : Option Addr) (n c B : Nat) (xs : List Int) (w : World) (hl : xs.length = n) (hb : (n + 1) * 8 ≤ 140737488355328) (hr : Rd w B A (iz .i64 xs)) :
    Calls Try.prog 14 #[.slice A n c] w (GivesLentI64 w xs) := by
  obtain ⟨i0, hi, hz, hsz, hby⟩ := info_parts Try.infoKI64
  have HS := hide (Src.ofRd (P := Try.prog) (size := 1) w Try.underlying23 A n c (iz .i64 xs) (by rw [iz_len, hl]; omega) (by omega) hr (iz_one _ _))
  have HL := hide hl
  clear hr hl
  have b1 : (0 + n) * 8 ≤ 140737488355328 := by omega
  have b2 : 0 + n ≤ maxLen := by unfold maxLen; omega
  have c1 : (0 + n + 1) * 8 ≤ 140737488355328 := by omega
  have c2 : 0 + n + 1 ≤ maxLen := by unfold maxLen; omega
  have HO0 := hide (Own.nil w w.heap.size 2 1)
  go_enter Try.func14, Try.ntmps14
  go_wp2_with (first
    | (at_builtin; refine wpList_append_gen _ rfl (.tmp 4) (.tmp 5) 23 23 rfl w.heap.size 2 i0 (.int .i64 0) 1 8 Try.underlying23 hi hz hsz hby rfl (.slice none 0 0) 0 [] rfl HO0.out _ n (iz .i64 xs) rfl HS.out b1 b2 (Nat.le_refl _) ?_; intro v1 w1 hown hfr hat; have HO1 := hide hown; have HF1 : Hid (Fr No w w1) := hide ((Fr.refl No w).own hfr (fun g h => by cases h)); have hz1 := hfr.size; clear hown hfr hat)
    | (at_builtin; refine wpList_append_gen _ rfl (.tmp 7) (.tmp 8) 23 23 rfl w.heap.size 2 i0 (.int .i64 0) 1 8 Try.underlying23 hi hz hsz hby rfl v1 (0 + n) _ rfl (HO1.out.fr0 ((Fr.refl No w1).alloc (.cells #[.int .i64 (-7171)] 2))) _ 1 [.int .i64 (-7171)] rfl (Src.one (P := Try.prog) w1 (e := 2) Try.underlying23 (.int .i64 (-7171)) rfl) c1 c2 (by simp; omega) ?_; intro v2 w2 hown hfr hat; obtain ⟨A2, k2, rfl, hc1, hc2, _⟩ := hown.form; unfold maxLen at hc2; have HO2 := hide hown; have HF2 : Hid (Fr No w w2) := hide ((HF1.out.alloc _).own hfr (fun g hg => .inl (HO1.out.lt g hg).1)); clear hown hfr hat))
  go_ret
  refine ⟨A2, k2, ?_, ?_, HF2.out⟩
  · rw [HL.out]; first | rfl | simp
  · have h := HO2.out
    rw [HL.out, iz_append]
    simpa [iz] using h

set_option maxRecDepth 100000 in
set_option maxHeartbeats 800000 in
theorem keptI64_any (A B : Option Addr) (n c m d b1 b2 : Nat) (xs : List Int) (w : World) (hx : xs.length = n) (hm : xs.length = m) (hn : n + 1 ≤ c) (hc : c ≤ maxLen) (hmd : m ≤ d) (hd : d ≤ maxLen) (hr : Rd w b1 A (iz .i64 (xs ++ [-7171]))) (hs : Rd w b2 B (iz .i64 xs)) :
    Calls Try.prog 26 #[.slice A n c, .slice B m d] w (RetQ (.bool true) w) := by
  have hr1 : Rd w b1 A (iz .i64 xs) := by
    have h := hr.tk xs.length
    rw [← iz_take, List.take_left] at h
    exact h
  have HK := hide (sameI64_any A B n c m d b1 b2 xs xs w hx hm (by omega) hc hmd hd hr1 hs)
  rw [decide_eq_true rfl] at HK
  obtain ⟨ad, rfl, _, hcell⟩ := hr.intAt (j := n) (by simp; omega)
  have e1 : (xs ++ [-7171]).getD n 0 = -7171 := by rw [← hx]; simp
  rw [e1] at hcell
  unfold maxLen at hc
  clear hr hs hr1 hx hm e1
  go_enter Try.func26, Try.ntmps26
  go_wp2_with (go_at_call 27; refine HK.out.mono ?_; rintro en w2 ⟨rfl, nq, rfl⟩)
  go_ret
  exact ⟨rfl, _, rfl⟩

end Go.Proofs.Ytpopbkcbplmcaaa
namespace Go.Proofs.Ytpopbkcbplmcaaa
set_option linter.unusedVariables false
set_option linter.unusedSimpArgs false
open Go.RowKit

/-- append inside a region that draws its order. -/
theorem step_append_any {P : Program} {ops : Array Oper} {o : Oper} {a : Act} {w : World} {K : Act → World → Prop} {Q : Exit → Act → World → Prop} {E : Prop} (hgd : o.guard = none) (s x : Operand) (t tx : TypeId)
    (ho : o.op = .call { callee := .builtin .append, args := #[s, x], argTypes := #[t, tx] })
    (base : Nat) (e : TypeId) (i : TypeInfo) (z : Value) (size bytes : Nat) (ht : P.underlying t = some (.slice e)) (hi : P.info? e = some i) (hz : i.zero = some z)
    (hsize : i.size = size) (hby : i.bytes = bytes) (hzs : z.cells.size = size)
    (v : Value) (n : Nat) (xs : List Value) (hs : a.eval s = v) (hown : Own w base e size v n xs)
    (y : Value) (m : Nat) (news : List Value) (hx : a.eval x = y) (hsrc : Src P size tx y m news w)
    (hbytes : (n + m) * bytes ≤ 140737488355328) (h63 : n + m ≤ maxLen) (hbase : base ≤ w.heap.size)
    (h : ∀ v' w', Own w' base e size v' (n + m) (xs ++ news) → Fr (fun k => v.ownBlock = some k) w w' → K (a.put o.dst v') w') :
    if Region.wanted o (yielded ops a.tmps) = true then Oper.wp P o a w K Q else E := by
  have hw : Region.wanted o (yielded ops a.tmps) = true := by simp [Region.wanted, hgd]
  rw [if_pos hw]
  exact wp_append_gen w s x t tx ho base e i z size bytes ht hi hz hsize hby hzs v n xs hs hown y m news hx hsrc hbytes h63 hbase fun v' w' h2 h3 _ => h v' w' h2 h3

end Go.Proofs.Ytpopbkcbplmcaaa
namespace Go.Proofs.Ytpopbkcbplmcaaa
set_option linter.unusedVariables false
set_option linter.unusedSimpArgs false
open Go.RowKit

theorem wp_named {P : Program} {s : Code} {Q : Exit → Act → World → Prop} {a : Act} {w : World} (h : ∀ K : Act → World → Prop, (∀ a' w', Q .normal a' w' → K a' w') → s.wp P (Exit.then K Q) a w) : s.wp P Q a w := by
  refine wp_mono (h (Q .normal) (fun _ _ h => h)) ?_
  intro e a' w' hq
  cases e <;> exact hq
theorem wp_act {P : Program} {s : Code} {Q : Exit → Act → World → Prop} {a : Act} {w : World} (h : ∀ a', a' = a → s.wp P Q a' w) : s.wp P Q a w := h a rfl
/-- a question, answered. -/
theorem said (p : Prop) : ∃ b : Bool, (b = true ↔ p) := by
  by_cases h : p
  · exact ⟨true, by simp [h]⟩
  · exact ⟨false, by simp [h]⟩
end Go.Proofs.Ytpopbkcbplmcaaa
namespace Go.Proofs.Ytpopbkcbplmcaaa
set_option linter.unusedVariables false
set_option linter.unusedSimpArgs false
open Go.RowKit

def LentN10 (w : World) (base : Nat) (p : PoL) : Prop := Own w base 2 1 (.slice p.2.1 (p.1.2.length + 1) p.2.2) (p.1.2.length + 1) (iz .i64 (p.1.2 ++ [-7171]))
structure LentPo (w : World) (base : Nat) (A : Option Addr) (n c : Nat) (l : List Po) : Prop where
  ex : ∃ ps : List PoL, ps.map (·.1) = l ∧ Own w base 44 2 (.slice A n c) n (pFlat ps) ∧ ∀ p ∈ ps, LentN10 w base p
theorem LentPo.off {S : Nat → Prop} {w w' : World} {base n c : Nat} {A : Option Addr} {l : List Po} (h : LentPo w base A n c l) (f : Fr S w w') (h1 : Off S w 44) (h2 : Off S w 2) : LentPo w' base A n c l := by
  obtain ⟨ps, q1, q2, q3⟩ := h.ex
  exact ⟨ps, q1, q2.off f h1, fun p hp => Own.off (q3 p hp) f h2⟩
theorem LentPo.fr0 {w w' : World} {base n c : Nat} {A : Option Addr} {l : List Po} (h : LentPo w base A n c l) (f : Fr No w w') : LentPo w' base A n c l := h.off f (fun _ _ _ _ h => h) (fun _ _ _ _ h => h)
/-- lent points, read. -/
theorem LentPo.rd {w : World} {base n c : Nat} {A : Option Addr} {l : List Po} (h : LentPo w base A n c l) : RdPo w w.heap.size A l ∧ n ≤ c ∧ c ≤ maxLen := by
  obtain ⟨ps, q1, q2, q3⟩ := h.ex
  refine ⟨⟨ps, q1, q2.rd, fun p hp => ?_⟩, q2.le.2.1, q2.le.2.2⟩
  have h3 := q3 p hp
  have h4 := h3.le
  refine ⟨by omega, h4.2.2, ?_⟩
  have h5 := (Own.rd h3).tk p.1.2.length
  rw [← iz_take, List.take_left] at h5
  exact h5
/-- the document's points: their places lie where they did. -/
structure RefPo (w : World) (base B : Nat) (A : Option Addr) (n c : Nat) (l : List Po) : Prop where
  ex : ∃ ps : List PoL, ps.map (·.1) = l ∧ Own w base 61 2 (.slice A n c) n (pFlat ps) ∧ ∀ p ∈ ps, p.1.2.length ≤ p.2.2 ∧ p.2.2 ≤ maxLen ∧ Rd w B p.2.1 (iz .i64 p.1.2)
theorem RefPo.fr0 {w w' : World} {base B n c : Nat} {A : Option Addr} {l : List Po} (h : RefPo w base B A n c l) (f : Fr No w w') : RefPo w' base B A n c l := by
  obtain ⟨ps, q1, q2, q3⟩ := h.ex
  exact ⟨ps, q1, q2.fr0 f, fun p hp => ⟨(q3 p hp).1, (q3 p hp).2.1, (q3 p hp).2.2.fr0 f⟩⟩
theorem RefPo.rd {w : World} {base B n c : Nat} {A : Option Addr} {l : List Po} (h : RefPo w base B A n c l) (hB : B ≤ w.heap.size) : RdPo w w.heap.size A l ∧ n ≤ c ∧ c ≤ maxLen := by
  obtain ⟨ps, q1, q2, q3⟩ := h.ex
  exact ⟨⟨ps, q1, q2.rd, fun p hp => ⟨(q3 p hp).1, (q3 p hp).2.1, (q3 p hp).2.2.more hB⟩⟩, q2.le.2.1, q2.le.2.2⟩

theorem src_bp (w : World) (d : Int) (A : Option Addr) (m c : Nat) : Src Try.prog 2 25 (.slice (some ⟨w.heap.size, 0, none⟩) 1 1) 1 [.int .i64 d, .slice A m c] (w.alloc (.cells #[.int .i64 d, .slice A m c] 44)) :=
  Src.ofRd (P := Try.prog) (size := 2) _ Try.underlying25 (some ⟨w.heap.size, 0, none⟩) 1 1 [.int .i64 d, .slice A m c] rfl (by omega) (Rd.block (heap_alloc_new w (.cells #[.int .i64 d, .slice A m c] 44))) (by simp [Value.oneCell'])
theorem src_rp (w : World) (d : Int) (A : Option Addr) (m c : Nat) : Src Try.prog 2 26 (.slice (some ⟨w.heap.size, 0, none⟩) 1 1) 1 [.int .i64 d, .slice A m c] (w.alloc (.cells #[.int .i64 d, .slice A m c] 61)) :=
  Src.ofRd (P := Try.prog) (size := 2) _ Try.underlying26 (some ⟨w.heap.size, 0, none⟩) 1 1 [.int .i64 d, .slice A m c] rfl (by omega) (Rd.block (heap_alloc_new w (.cells #[.int .i64 d, .slice A m c] 61))) (by simp [Value.oneCell'])
set_option maxRecDepth 100000 in
set_option maxHeartbeats 2000000 in
theorem lentPo_any (A : Option Addr) (n c B : Nat) (l : List Po) (w : World) (hl : l.length = n) (hn : n ≤ c) (hc : c ≤ maxLen) (hc2 : n * 32 ≤ 140737488355328) (hns : ∀ e ∈ l, (e.2.length + 1) * 8 ≤ 140737488355328) (hB : B ≤ w.heap.size) (hr : RdPo w B A l) :
    Calls Try.prog 8 #[.slice A n c] w (fun en w' => ∃ A1 c1 A2 c2, en = .returned (.tuple #[.slice A1 n c1, .slice A2 n c2]) ∧ LentPo w' w.heap.size A1 n c1 l ∧ RefPo w' w.heap.size B A2 n c2 l ∧ Fr No w w') := by
  obtain ⟨ip, hip, hipz, hipsz, hipby⟩ := info_parts Try.infoBP
  obtain ⟨iq, hiq, hiqz, hiqsz, hiqby⟩ := info_parts Try.infoRP
  have HL := hide hl
  have HR := hide hr
  have HNS := hide hns
  have HF0 := hide (Fr.refl No w)
  clear hl hr hns
  go_enter Try.func8, Try.ntmps8
  go_wp2
  go_loopw [4, 5, 6] (fun v u ix wr => ∃ (j : Nat) (ps qs : List PoL), j ≤ n ∧ ix = .int .i64 (j : Nat) ∧ Hid (ps.map (·.1) = l.take j) ∧ Hid (Own wr w.heap.size 44 2 v j (pFlat ps)) ∧ Hid (∀ p ∈ ps, LentN10 wr w.heap.size p) ∧ Hid (qs.map (·.1) = l.take j) ∧ Hid (Own wr w.heap.size 61 2 u j (pFlat qs)) ∧ Hid (∀ p ∈ qs, p.1.2.length ≤ p.2.2 ∧ p.2.2 ≤ maxLen ∧ Rd w B p.2.1 (iz .i64 p.1.2)) ∧ Hid (Fr No w wr)) (fun _ _ ix _ => n - (intOf ix).toNat)
  case atStart => exact ⟨0, [], [], by omega, by go_num, hide (by simp), hide (Own.nil _ _ _ _), hide (fun p hp => by simp at hp), hide (by simp), hide (Own.nil _ _ _ _), hide (fun p hp => by simp at hp), HF0⟩
  case round =>
    obtain ⟨wo, rfl⟩ : ∃ wo : World, wo = wr := ⟨_, rfl⟩
    obtain ⟨j, ps, qs, hj, rfl, HPs, HO, HN, HQs, HP, HM2, HFr⟩ := hrel
    clear HF0
    by_cases hlt : j < n
    · have hjl : j < l.length := by rw [HL.out]; exact hlt
      obtain ⟨ad, Ak, ck, rfl, _, g0, g1, e1, e2, hrk0⟩ := HR.out.at hjl
      have k0 := HFr.out.cell g0 (fun h => h)
      have k1 := HFr.out.cell g1 (fun h => h)
      have hrk := hrk0.fr0 HFr.out
      have hmem : l.getD j noPo ∈ l := getP_mem hjl
      have hsz := HNS.out _ hmem
      have HTk := hide (take_snocP hjl)
      obtain ⟨E, hE⟩ : ∃ E, l.getD j noPo = E := ⟨_, rfl⟩
      rw [hE] at k0 k1 e1 hrk hrk0 hsz HTk g0 g1
      obtain ⟨m, hm⟩ : ∃ m, E.2.length = m := ⟨_, rfl⟩
      obtain ⟨d, hd⟩ : ∃ d, E.1 = d := ⟨_, rfl⟩
      rw [hm] at k1 e1 hsz g1
      rw [hd] at k0 g0
      have HG0 := hide g0
      have HG1 := hide g1
      clear g0 g1
      have HM := hide hm
      have HD := hide hd
      have HRk := hide hrk0
      have HEc := hide (And.intro e1 e2)
      have HLe := hide (lentI64_any Ak m ck B E.2 wo.drew hm hsz (hrk.fr0 (Fr.refl No wo).drew))
      have k0d : wo.drew.cell? (ad.add (j * 2)) = some (.int .i64 d) := k0
      have k1d : wo.drew.cell? ⟨(ad.add (j * 2)).block, (ad.add (j * 2)).off + 1, none⟩ = some (.slice Ak m ck) := k1
      have i0 : (0 : Int) ≤ (j : Int) := by omega
      have i1 : (j : Int) < (n : Int) := by omega
      have b1 : (j + 1) * 32 ≤ 140737488355328 := by omega
      have b2 : j + 1 ≤ maxLen := by unfold maxLen; omega
      unfold maxLen at e2
      clear hE hm hd hmem hrk hrk0 hjl k0 k1 hsz
      have HAl := hide (fun (W : World) (f : Fr No wo W) (A3 : Option Addr) (c3 : Nat) => HO.out.fr0 (f.alloc (.cells #[.int .i64 d, .slice A3 m c3] 44)))
      have HZl := hide (fun (W : World) (f : Fr No wo W) (A3 : Option Addr) (c3 : Nat) => ((HFr.out.tr f).alloc (.cells #[.int .i64 d, .slice A3 m c3] 44)).size)
      go_upto_region 6 with (fail)
      refine wp_named fun K hK => ?_
      go_cut [4] from 7 to 27 (fun v wx => ∃ ps2 : List PoL, Hid (ps2.map (·.1) = l.take (j + 1)) ∧ Hid (Own wx w.heap.size 44 2 v (j + 1) (pFlat ps2)) ∧ Hid (∀ p ∈ ps2, LentN10 wx w.heap.size p) ∧ Hid (Fr No w wx) ∧ Hid (Own wx w.heap.size 61 2 u5 j (pFlat qs)))
      case first =>
        go_region_law (first
          | (refine step_append_any rfl (.tmp 13) (.tmp 26) 25 25 rfl w.heap.size 44 ip (.agg #[.int .i64 0, .slice none 0 0]) 2 32 Try.underlying25 hip hipz hipsz hipby rfl u4 j (pFlat ps) rfl HO5.out _ 1 [.int .i64 d, .slice A3 m c3] rfl HS5.out b1 b2 b3 ?_; intro v6 w6 hown hfr; have HO6 := hide hown; have HF6 := hide hfr; clear hown hfr)
          | (go_simp; go_at_call 14; refine HLe.out.mono ?_; rintro en w3 ⟨A3, c3, he, hown, hfr⟩; rw [HM.out] at he hown; subst he; have HO3 := hide hown; have hfr3 : Fr No wo w3 := (Fr.refl No wo).drew.tr hfr; have HF3 := hide hfr3; have k03 := hfr3.cell k0d (fun h => h); have HO5 := hide (HAl.out w3 hfr3 A3 c3); have HS5 := hide (src_bp w3 d A3 m c3); have b3 := (HZl.out w3 hfr3 A3 c3); clear hown hfr hfr3))
        all_goals (go_wp2; go_meet)
        all_goals (
          have fA : Fr No w3 (w3.alloc (.cells #[.int .i64 d, .slice A3 m c3] 44)) := (Fr.refl No w3).alloc _
          refine ⟨ps ++ [(E, A3, c3)], hide ?_, hide ?_, hide ?_, hide ?_, hide ?_⟩
          · rw [List.map_append, HPs.out, HTk.out]; rfl
          · rw [pFlat_snoc]
            unfold pRow
            dsimp only
            rw [HM.out, HD.out]
            exact HO6.out
          · intro p hp
            rcases List.mem_append.1 hp with hp | hp
            · exact ((Own.fr0 (HN.out p hp) HF3.out).fr0 fA).off HF6.out (off_own HO5.out (by decide))
            · rw [List.mem_singleton.1 hp]
              unfold LentN10
              dsimp only
              rw [HM.out]
              exact ((HO3.out.lower HFr.out.size).fr0 fA).off HF6.out (off_own HO5.out (by decide))
          · exact ((HFr.out.tr HF3.out).tr fA).own HF6.out (fun k hk => .inl (HO5.out.lt k hk).1)
          · exact ((HP.out.fr0 HF3.out).fr0 fA).off HF6.out (off_own HO5.out (by decide)))
      case rest =>
      obtain ⟨ps2, HP2, HO2, HN2, HF2, HU2⟩ := hcut
      obtain ⟨w7, rfl⟩ : ∃ W : World, W = wc := ⟨_, rfl⟩
      refine hK _ _ ?_
      clear hK K k0d k1d HAl HZl HLe
      have k0d : w7.drew.cell? (ad.add (j * 2)) = some (.int .i64 d) := HF2.out.cell HG0.out (fun h => h)
      have k1d : w7.drew.cell? ⟨(ad.add (j * 2)).block, (ad.add (j * 2)).off + 1, none⟩ = some (.slice Ak m ck) := HF2.out.cell HG1.out (fun h => h)
      have HO5 := hide ((HU2.out.fr0 ((Fr.refl No w7).drew)).fr0 ((Fr.refl No w7.drew).alloc (.cells #[.int .i64 d, .slice Ak m ck] 61)))
      have HS5 := hide (src_rp w7.drew d Ak m ck)
      have b3 : w.heap.size ≤ (w7.drew.alloc (.cells #[.int .i64 d, .slice Ak m ck] 61)).heap.size := ((HF2.out.drew).alloc _).size
      go_upto_region 7 with (fail)
      refine wp_named fun K hK => ?_
      go_cut [5] from 28 to 41 (fun u wx => ∃ qs2 : List PoL, Hid (qs2.map (·.1) = l.take (j + 1)) ∧ Hid (Own wx w.heap.size 61 2 u (j + 1) (pFlat qs2)) ∧ Hid (∀ p ∈ qs2, p.1.2.length ≤ p.2.2 ∧ p.2.2 ≤ maxLen ∧ Rd w B p.2.1 (iz .i64 p.1.2)) ∧ Hid (Fr No w wx) ∧ Hid (Own wx w.heap.size 44 2 u4 (j + 1) (pFlat ps2)) ∧ Hid (∀ p ∈ ps2, LentN10 wx w.heap.size p))
      case first =>
        go_region_law (refine step_append_any rfl (.tmp 28) (.tmp 40) 26 26 rfl w.heap.size 61 iq (.agg #[.int .i64 0, .slice none 0 0]) 2 32 Try.underlying26 hiq hiqz hiqsz hiqby rfl u5 j (pFlat qs) rfl HO5.out _ 1 [.int .i64 d, .slice Ak m ck] rfl HS5.out b1 b2 b3 ?_; intro v6 w6 hown hfr; have HO6 := hide hown; have HF6 := hide hfr; clear hown hfr)
        all_goals (go_wp2; go_meet)
        all_goals (
          have fA : Fr No w7 (w7.drew.alloc (.cells #[.int .i64 d, .slice Ak m ck] 61)) := ((Fr.refl No w7).drew).alloc _
          refine ⟨qs ++ [(E, Ak, ck)], hide ?_, hide ?_, hide ?_, hide ?_, hide ?_, hide ?_⟩
          · rw [List.map_append, HQs.out, HTk.out]; rfl
          · rw [pFlat_snoc]
            unfold pRow
            dsimp only
            rw [HM.out, HD.out]
            exact HO6.out
          · intro p hp
            rcases List.mem_append.1 hp with hp | hp
            · exact HM2.out p hp
            · rw [List.mem_singleton.1 hp]
              dsimp only
              rw [HM.out]
              exact ⟨HEc.out.1, HEc.out.2, HRk.out⟩
          · exact (HF2.out.tr fA).own HF6.out (fun k hk => .inl (HO5.out.lt k hk).1)
          · exact (HO2.out.fr0 fA).off HF6.out (off_own HO5.out (by decide))
          · intro p hp
            exact ((Own.fr0 (HN2.out p hp) fA)).off HF6.out (off_own HO5.out (by decide)))
      case rest =>
      obtain ⟨qs2, HQ2, HV2, HR2, HF8, HO8, HN8⟩ := hcut
      obtain ⟨w8, rfl⟩ : ∃ W : World, W = wc := ⟨_, rfl⟩
      refine hK _ _ ?_
      clear hK K k0d k1d
      go_wp2_with (fail)
      go_roundw
      case rel => exact ⟨j + 1, ps2, qs2, by omega, by go_num, HP2, HO8, HN8, HQ2, HV2, HR2, HF8⟩
      case measure => simp [intOf]; omega
    · obtain rfl : j = n := by omega
      have hall : l.take j = l := List.take_of_length_le (by rw [HL.out]; exact Nat.le_refl _)
      rw [hall] at HPs HQs
      obtain ⟨A1, c1, rfl, x1, x2, _⟩ := HO.out.form
      obtain ⟨A2, c2, rfl, y1, y2, _⟩ := HP.out.form
      unfold maxLen at x2 y2
      clear hall hlt
      go_wp2
      go_ret2
      exact ⟨A1, c1, A2, c2, rfl, ⟨ps, HPs.out, HO.out, HN.out⟩, ⟨qs, HQs.out, HP.out, fun p hp => ⟨(HM2.out p hp).1, (HM2.out p hp).2.1, (HM2.out p hp).2.2.fr0 HFr.out⟩⟩, HFr.out⟩
end Go.Proofs.Ytpopbkcbplmcaaa
