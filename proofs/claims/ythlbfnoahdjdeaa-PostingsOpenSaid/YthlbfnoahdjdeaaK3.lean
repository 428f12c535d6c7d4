/- Several texts in one: NumCut, TakeU, HasB, PoP, PoM, WidW, Mem4. -/
import Derived.Test.YthlbfnoahdjdeaaK2
import Derived.Deep.RegionWith
import Derived.BigQuiet
import Derived.Lib.BitFns
import Derived.Deep.Light
import Derived.Deep.DeepAppendWide
import Derived.Lib.SlBytesConst
namespace Go.Proofs.Ythlbfnoahdjdeaa
set_option linter.unusedVariables false
set_option linter.unusedSimpArgs false
open Go.RowKit

theorem num_cut {w : World} {B : Nat} {A : Option Addr} {bs : List UInt8} {c at_ : Nat} (r : Value) (hr : Rd w B A (by8 bs)) (h1 : bs.length ≤ c) (h2 : c ≤ maxLen) (h3 : at_ ≤ bs.length) (nq : Nat) :
    Calls Try.prog 75 #[r, .slice (if c = at_ then A else A.map (·.add at_)) (bs.length - at_) (c - at_)] (w.drewN nq) fun e w' => e = .returned (numV (dec 0 0 (bs.drop at_))) ∧ w' = w.drewN nq :=
  (number_any r _ _ _ B (bs.drop at_) (w.drewN nq) (by simp) (by omega) (by omega) (by rw [by8_drop]; exact Rd.cut (w := w) hr (by rw [by8_length]; exact h1))).mono fun _ _ ⟨a, b⟩ => ⟨a, b.symm⟩

theorem num_none {w : World} {B : Nat} {A : Option Addr} {bs : List UInt8} {c at_ : Nat} (r : Value) (hr : Rd w B A (by8 bs)) (h1 : bs.length ≤ c) (h2 : c ≤ maxLen) (h3 : at_ ≤ bs.length) (hd : dec 0 0 (bs.drop at_) = none) (nq : Nat) :
    Calls Try.prog 75 #[r, .slice (if c = at_ then A else A.map (·.add at_)) (bs.length - at_) (c - at_)] (w.drewN nq) fun e w' => e = .returned (.tuple #[.int .u64 0, .int .i64 (-1)]) ∧ w' = w.drewN nq := by
  have h := num_cut r hr h1 h2 h3 nq
  rw [hd] at h
  exact h

theorem num_some {w : World} {B : Nat} {A : Option Addr} {bs : List UInt8} {c at_ u k : Nat} (r : Value) (hr : Rd w B A (by8 bs)) (h1 : bs.length ≤ c) (h2 : c ≤ maxLen) (h3 : at_ ≤ bs.length) (hd : dec 0 0 (bs.drop at_) = some (u, k)) (nq : Nat) :
    Calls Try.prog 75 #[r, .slice (if c = at_ then A else A.map (·.add at_)) (bs.length - at_) (c - at_)] (w.drewN nq) fun e w' => e = .returned (.tuple #[.int .u64 u, .int .i64 k]) ∧ w' = w.drewN nq := by
  have h := num_cut r hr h1 h2 h3 nq
  rw [hd] at h
  exact h

end Go.Proofs.Ythlbfnoahdjdeaa
namespace Go.Proofs.Ythlbfnoahdjdeaa
set_option linter.unusedVariables false
set_option linter.unusedSimpArgs false
open Go.RowKit

def uintR (bs : List UInt8) (a : Nat) (e : Int) : Nat × Nat × Int :=
  if e = 0 then (match dec 0 0 (bs.drop a) with | none => (0, a, 20) | some (u, k) => (u, a + k, 0)) else (0, a, e)

theorem uintR_lt (bs : List UInt8) (a : Nat) (e : Int) : (uintR bs a e).1 < 18446744073709551616 := by
  unfold uintR
  split
  · cases hd : dec 0 0 (bs.drop a) with
    | none => simp
    | some x => exact dec_lt _ 0 0 x.1 x.2 (by decide) hd
  · simp

theorem uintR_none {bs : List UInt8} {a : Nat} (hd : dec 0 0 (bs.drop a) = none) : uintR bs a 0 = (0, a, 20) := by unfold uintR; rw [if_pos rfl, hd]

theorem uintR_some {bs : List UInt8} {a u k : Nat} (hd : dec 0 0 (bs.drop a) = some (u, k)) : uintR bs a 0 = (u, a + k, 0) := by unfold uintR; rw [if_pos rfl, hd]

set_option maxRecDepth 100000 in
set_option maxHeartbeats 400000 in
theorem takeU_bad (g : Nat) (bs : List UInt8) (at_ : Nat) (w : World) (h : RD w g bs at_ 0) (hd : dec 0 0 (bs.drop at_) = none) :
    Calls Try.prog 107 #[.pointer (some ⟨g, 0, none⟩), .func (.func 75) #[.pointer (some ⟨g, 0, none⟩)] #[]] w (RDRet (.int .u64 0) w g bs at_ 20) := by
  obtain ⟨A, c, ⟨c0, c1, c2⟩, hf, h1, h2, h3, h4, hr⟩ := h.parts
  have HN := hide (num_none (.pointer (some ⟨g, 0, none⟩)) hr h1 h2 h3 hd)
  have H := hide h
  clear h hr hd
  go_enter Try.func107, Try.ntmps107
  go_wp2_with (fail)
  go_quiet ((go_at_call 75; exact Calls.quiet_of_same (HN.out _)))
  go_wp2
  all_goals
    go_ret
    exact ⟨rfl, (H.out.drewN _).set2 20, ((Fr.refl _ _).drewN _).put _ _⟩

set_option maxRecDepth 100000 in
set_option maxHeartbeats 400000 in
theorem takeU_ok (g : Nat) (bs : List UInt8) (at_ u k : Nat) (w : World) (h : RD w g bs at_ 0) (hd : dec 0 0 (bs.drop at_) = some (u, k)) :
    Calls Try.prog 107 #[.pointer (some ⟨g, 0, none⟩), .func (.func 75) #[.pointer (some ⟨g, 0, none⟩)] #[]] w (RDRet (.int .u64 u) w g bs (at_ + k) 0) := by
  obtain ⟨A, c, ⟨c0, c1, c2⟩, hf, h1, h2, h3, h4, hr⟩ := h.parts
  have HN := hide (num_some (.pointer (some ⟨g, 0, none⟩)) hr h1 h2 h3 hd)
  have hk := dec_le _ _ _ _ _ hd
  have hk1 : at_ + k ≤ bs.length := by have := hk.2; simp at this; omega
  have H := hide h
  clear h hr hd hk
  go_enter Try.func107, Try.ntmps107
  go_wp2_with (fail)
  go_quiet ((go_at_call 75; exact Calls.quiet_of_same (HN.out _)))
  go_wp2
  all_goals
    go_ret
    exact ⟨rfl, (H.out.drewN _).set1 _ hk1, ((Fr.refl _ _).drewN _).put _ _⟩

set_option maxRecDepth 100000 in
set_option maxHeartbeats 400000 in
theorem takeU_off (g : Nat) (bs : List UInt8) (at_ : Nat) (e : Int) (w : World) (f : Value) (h : RD w g bs at_ e) (he : e ≠ 0) :
    Calls Try.prog 107 #[.pointer (some ⟨g, 0, none⟩), f] w (RDRet (.int .u64 0) w g bs at_ e) := by
  obtain ⟨A, c, ⟨c0, c1, c2⟩, hf, h1, h2, h3, h4, hr⟩ := h.parts
  have hb : (e != 0) = true := by simpa using he
  have H := hide h
  clear h hr he
  go_enter Try.func107, Try.ntmps107
  go_wp2_with (fail)
  go_ret
  exact ⟨rfl, H.out, Fr.refl _ _⟩

set_option maxRecDepth 100000 in
set_option maxHeartbeats 400000 in
theorem takeU_nil (w : World) (f : Value) :
    Calls Try.prog 107 #[.pointer none, f] w (Ret (.int .u64 0) w) := by
  go_enter Try.func107, Try.ntmps107
  go_wp2_with (fail)
  go_ret
  exact ⟨rfl, rfl⟩

theorem takeU_all (g : Nat) (bs : List UInt8) (a : Nat) (e : Int) (w : World) (h : RD w g bs a e) :
    Calls Try.prog 107 #[.pointer (some ⟨g, 0, none⟩), .func (.func 75) #[.pointer (some ⟨g, 0, none⟩)] #[]] w (RDRet (.int .u64 (uintR bs a e).1) w g bs (uintR bs a e).2.1 (uintR bs a e).2.2) := by
  unfold uintR
  by_cases he : e = 0
  · subst he
    rw [if_pos rfl]
    cases hd : dec 0 0 (bs.drop a) with
    | none => exact takeU_bad g bs a w h hd
    | some x => exact takeU_ok g bs a x.1 x.2 w h hd
  · rw [if_neg he]
    exact takeU_off g bs a e w _ h he

set_option maxRecDepth 100000 in
set_option maxHeartbeats 400000 in
theorem int_any (g : Nat) (bs : List UInt8) (a : Nat) (e : Int) (w : World) (h : RD w g bs a e) :
    Calls Try.prog 95 #[.pointer (some ⟨g, 0, none⟩)] w (RDRet (.int .i64 (unzz (uintR bs a e).1)) w g bs (uintR bs a e).2.1 (uintR bs a e).2.2) := by
  have H := hide (takeU_all g bs a e w h)
  have HX := hide (xor_zz (uintR_lt bs a e))
  clear h
  generalize uintR bs a e = x at H HX
  go_enter Try.func95, Try.ntmps95
  go_wp2_with (go_at_call 107; refine H.out.mono ?_; rintro en w' ⟨rfl, hq⟩; have HQ := hide hq; clear hq)
  go_ret
  refine ⟨?_, HQ.out⟩
  rw [← HX.out]
  rfl

set_option maxRecDepth 100000 in
set_option maxHeartbeats 400000 in
theorem int_nil (w : World) :
    Calls Try.prog 95 #[.pointer none] w (Ret (.int .i64 0) w) := by
  have hx := xor_zz (u := 0) (by omega)
  have h00 : wrap64 0 = 0 := by unfold wrap64; omega
  simp [unzz, h00] at hx
  go_enter Try.func95, Try.ntmps95
  go_wp2_with (go_at_call 107; refine (takeU_nil _ _).mono ?_; rintro en w' ⟨rfl, rfl⟩)
  go_ret
  exact ⟨by simp [hx], rfl⟩

end Go.Proofs.Ythlbfnoahdjdeaa
namespace Go.Proofs.Ythlbfnoahdjdeaa
set_option linter.unusedVariables false
set_option linter.unusedSimpArgs false
open Go.RowKit

theorem pre_app {α : Type} {s t l : List α} {a : Nat} : s ++ t <+: l.drop a ↔ s <+: l.drop a ∧ t <+: l.drop (a + s.length) := by
  constructor
  · rintro ⟨r, hr⟩
    refine ⟨⟨t ++ r, by rw [← hr, List.append_assoc]⟩, ⟨r, ?_⟩⟩
    rw [← List.drop_drop, ← hr, List.append_assoc, List.drop_left]
  · rintro ⟨⟨r, hr⟩, ⟨q, hq⟩⟩
    refine ⟨q, ?_⟩
    rw [← List.drop_drop, ← hr, List.drop_left] at hq
    rw [List.append_assoc, hq, hr]
theorem pre_le {α : Type} {s l : List α} {a : Nat} (h : s <+: l.drop a) : s.length ≤ l.length - a := by
  have := h.length_le
  rw [List.length_drop] at this
  exact this
theorem pre_nil {α : Type} {l : List α} {a : Nat} : [] <+: l.drop a := ⟨l.drop a, rfl⟩
theorem pre_eq {α : Type} {s l : List α} (h : s <+: l.drop 0) (hl : s.length = l.length) : s = l := h.eq_of_length (by simpa using hl)

theorem uint_has {bs : List UInt8} {a u : Nat} (hu : u < 18446744073709551616) (h : enc u <+: bs.drop a) : uintR bs a 0 = (u, a + (enc u).length, 0) := by
  obtain ⟨r, hr⟩ := h
  refine uintR_some ?_
  rw [← hr]
  exact dec_enc u hu r
theorem dec_has {bs : List UInt8} {a u k : Nat} (hd : dec 0 0 (bs.drop a) = some (u, k)) : enc u <+: bs.drop a ∧ k = (enc u).length := by
  have h1 := enc_dec hd
  have h2 := dec_le _ _ _ _ _ hd
  have h3 : (enc u).length = k := by rw [h1, List.length_take]; omega
  exact ⟨by rw [h1]; exact List.take_prefix _ _, h3.symm⟩
theorem uint_of {bs : List UInt8} {a : Nat} {e : Int} (h : (uintR bs a e).2.2 = 0) : e = 0 ∧ (uintR bs a e).1 < 18446744073709551616 ∧ enc (uintR bs a e).1 <+: bs.drop a ∧ (uintR bs a e).2.1 = a + (enc (uintR bs a e).1).length := by
  by_cases he : e = 0
  · subst he
    cases hd : dec 0 0 (bs.drop a) with
    | none => rw [uintR_none hd] at h; cases h
    | some x =>
      obtain ⟨u, k⟩ := x
      have hlt := uintR_lt bs a 0
      rw [uintR_some hd] at hlt ⊢
      obtain ⟨h1, h2⟩ := dec_has hd
      exact ⟨rfl, hlt, h1, by rw [h2]⟩
  · exfalso
    unfold uintR at h
    rw [if_neg he] at h
    exact he h
theorem size_has {bs : List UInt8} {a u : Nat} {most : Int} (hu : u < 18446744073709551616) (hm : (u : Int) ≤ most) (h : enc u <+: bs.drop a) : sizeS bs a 0 most = (u, a + (enc u).length, 0) := by
  obtain ⟨r, hr⟩ := h
  have hd : dec 0 0 (bs.drop a) = some (u, (enc u).length) := by rw [← hr]; exact dec_enc u hu r
  unfold sizeS
  rw [if_pos rfl, sizeR_ok hd (by omega)]
theorem size_of {bs : List UInt8} {a : Nat} {e most : Int} (h : (sizeS bs a e most).2.2 = 0) : e = 0 ∧ ((sizeS bs a e most).1 : Int) ≤ most ∧ (sizeS bs a e most).1 < 18446744073709551616 ∧ enc (sizeS bs a e most).1 <+: bs.drop a ∧ (sizeS bs a e most).2.1 = a + (enc (sizeS bs a e most).1).length := by
  by_cases he : e = 0
  · subst he
    unfold sizeS at h ⊢
    rw [if_pos rfl] at h ⊢
    cases hd : dec 0 0 (bs.drop a) with
    | none => rw [sizeR_none hd] at h; cases h
    | some x =>
      obtain ⟨u, k⟩ := x
      by_cases hm : most < 0 ∨ most < (u : Int)
      · rw [sizeR_no hd hm] at h; cases h
      · rw [sizeR_ok hd hm]
        obtain ⟨h1, h2⟩ := dec_has hd
        exact ⟨rfl, by show (u : Int) ≤ most; omega, dec_lt _ 0 0 u k (by simp) hd, h1, by rw [h2]⟩
  · exfalso
    unfold sizeS at h
    rw [if_neg he] at h
    exact he h
theorem size_zero {bs : List UInt8} {a : Nat} {e most : Int} (h : (sizeS bs a e most).2.2 ≠ 0) : (sizeS bs a e most).1 = 0 := by
  unfold sizeS at h ⊢
  split
  · rename_i he
    rw [if_pos he] at h
    cases hs : sizeR (bs.drop a) most with
    | none => rfl
    | some x =>
      rw [hs] at h
      exact absurd rfl h
  · rfl
theorem sizeS_le {bs : List UInt8} {a : Nat} {e most : Int} (h0 : 0 ≤ most) : ((sizeS bs a e most).1 : Int) ≤ most := by
  by_cases h : (sizeS bs a e most).2.2 = 0
  · exact (size_of h).2.1
  · rw [size_zero h]; simpa using h0
theorem bytes_has {bs s : List UInt8} {a : Nat} (h : s <+: bs.drop a) : bytesS bs a 0 (s.length : Nat) = (s, a + s.length, 0) := by
  obtain ⟨r, hr⟩ := h
  unfold bytesS bytesR
  rw [if_pos rfl, if_neg (by rw [← hr]; simp; omega), ← hr]
  simp
theorem bytes_of {bs : List UInt8} {a k : Nat} {e : Int} (h : (bytesS bs a e (k : Nat)).2.2 = 0) : e = 0 ∧ (bytesS bs a e (k : Nat)).1.length = k ∧ (bytesS bs a e (k : Nat)).1 <+: bs.drop a ∧ (bytesS bs a e (k : Nat)).2.1 = a + k := by
  by_cases he : e = 0
  · subst he
    unfold bytesS bytesR at h ⊢
    rw [if_pos rfl] at h ⊢
    by_cases hm : (k : Int) < 0 ∨ ((bs.drop a).length : Int) < k
    · rw [if_pos hm] at h; cases h
    · rw [if_neg hm]
      refine ⟨rfl, ?_, ?_, ?_⟩
      · show ((bs.drop a).take (k : Int).toNat).length = k
        rw [List.length_take]; omega
      · exact List.take_prefix _ _
      · simp
  · exfalso
    unfold bytesS at h
    rw [if_neg he] at h
    exact he h

end Go.Proofs.Ythlbfnoahdjdeaa
namespace Go.Proofs.Ythlbfnoahdjdeaa
set_option linter.unusedVariables false
set_option linter.unusedSimpArgs false
open Go.RowKit

/-- a post: document, positions. -/
abbrev Po := Int × List Int
def noPo : Po := (0, [])
def lastD (l : List Po) : Int := match l.getLast? with | none => -1 | some x => x.1
theorem lastD_nil : lastD [] = -1 := rfl
theorem lastD_snoc (l : List Po) (x : Po) : lastD (l ++ [x]) = x.1 := by simp [lastD]
def sumP (l : List Po) : Nat := (l.map (fun x => x.2.length)).sum
theorem sumP_snoc (l : List Po) (x : Po) : sumP (l ++ [x]) = sumP l + x.2.length := by simp [sumP]
theorem sumP_app (l m : List Po) : sumP (l ++ m) = sumP l + sumP m := by simp [sumP]
/-- positions that do not fall. -/
def upL (p : List Int) : Prop := ∀ k, k + 1 < p.length → p.getD k 0 ≤ p.getD (k + 1) 0
/-- may this post stand behind those? -/
def okPo (a : List Po) (x : Po) : Prop := lastD a < x.1 ∧ x.1 < 16384 ∧ x.2 ≠ [] ∧ sumP a + x.2.length ≤ 1048576 ∧ upL x.2 ∧ ∀ y ∈ x.2, 0 ≤ y ∧ y ≤ 1048576
def rightP (l : List Po) : Prop := ∀ i, i < l.length → okPo (l.take i) (l.getD i noPo)
theorem rightP_nil : rightP [] := fun i h => by simp at h
theorem take_snocP {l : List Po} {i : Nat} (h : i < l.length) : l.take (i + 1) = l.take i ++ [l.getD i noPo] := by
  rw [List.take_succ_eq_append_getElem h]
  congr 2
  simp [List.getElem?_eq_getElem h]
theorem rightP_take {l : List Po} (h : rightP l) (k : Nat) : rightP (l.take k) := by
  intro i hi
  rw [List.length_take] at hi
  have := h i (by omega)
  rw [List.take_take, show min i k = i by omega, List.getD, List.getElem?_take, if_pos (by omega)]
  exact this
theorem rightP_snoc {l : List Po} {x : Po} (h : rightP l) (hx : okPo l x) : rightP (l ++ [x]) := by
  intro i hi
  rw [List.length_append, List.length_singleton] at hi
  by_cases hl : i < l.length
  · have := h i hl
    rw [List.take_append_of_le_length (by omega), List.getD, List.getElem?_append_left hl]
    exact this
  · have : i = l.length := by omega
    subst this
    rw [List.take_left' rfl]
    simpa using hx
theorem upL_of {p : List Int} (h : upL p) {i j : Nat} (hij : i ≤ j) (hj : j < p.length) : p.getD i 0 ≤ p.getD j 0 := by
  induction j with
  | zero => have : i = 0 := by omega
            rw [this]; exact Int.le_refl _
  | succ j ih =>
    by_cases e : i = j + 1
    · rw [e]; exact Int.le_refl _
    · exact Int.le_trans (ih (by omega) (by omega)) (h j hj)
theorem right_last {l : List Po} (h : rightP l) : -1 ≤ lastD l ∧ lastD l < 16384 := by
  rcases List.eq_nil_or_concat l with rfl | ⟨m, x, rfl⟩
  · simp [lastD_nil]
  · rw [List.concat_eq_append] at h ⊢
    rw [lastD_snoc]
    have h1 := h m.length (by simp)
    rw [List.take_left' rfl] at h1
    have h2 : (m ++ [x]).getD m.length noPo = x := by simp
    rw [h2] at h1
    have h3 : -1 ≤ lastD m := by
      have := rightP_take h m.length
      rw [List.take_left' rfl] at this
      exact (right_last this).1
    exact ⟨by have := h1.1; omega, h1.2.1⟩
termination_by l.length
decreasing_by rename_i h5 _ _ _ _; simp_all
theorem right_len {l : List Po} (h : rightP l) : (l.length : Int) ≤ lastD l + 1 := by
  rcases List.eq_nil_or_concat l with rfl | ⟨m, x, rfl⟩
  · simp [lastD_nil]
  · rw [List.concat_eq_append] at h ⊢
    rw [lastD_snoc]
    have h1 := h m.length (by simp)
    rw [List.take_left' rfl] at h1
    have h2 : (m ++ [x]).getD m.length noPo = x := by simp
    rw [h2] at h1
    have h3 : (m.length : Int) ≤ lastD m + 1 := by
      have := rightP_take h m.length
      rw [List.take_left' rfl] at this
      exact right_len this
    have := h1.1
    rw [List.length_append, List.length_singleton]
    omega
termination_by l.length
decreasing_by rename_i h5 _ _ _; simp_all
theorem right_16 {l : List Po} (h : rightP l) : l.length ≤ 16384 := by have h1 := right_len h; have h2 := right_last h; omega
theorem right_sum {l : List Po} (h : rightP l) : sumP l ≤ 1048576 := by
  rcases List.eq_nil_or_concat l with rfl | ⟨m, x, rfl⟩
  · simp [sumP]
  · rw [List.concat_eq_append] at h ⊢
    have h1 := h m.length (by simp)
    rw [List.take_left' rfl] at h1
    have h2 : (m ++ [x]).getD m.length noPo = x := by simp
    rw [h2] at h1
    rw [sumP_snoc]
    exact h1.2.2.2.1

/-- a block's rows. -/
def docsL : Int → List Po → List Int
  | _, [] => []
  | a, x :: r => (x.1 - a - 1) :: docsL x.1 r
def lastOr (a : Int) (l : List Po) : Int := match l.getLast? with | none => a | some x => x.1
theorem lastOr_snoc (a : Int) (l : List Po) (x : Po) : lastOr a (l ++ [x]) = x.1 := by simp [lastOr]
theorem lastOr_cons (a : Int) (x : Po) (l : List Po) : lastOr a (x :: l) = lastOr x.1 l := by
  cases l <;> simp [lastOr, List.getLast?_cons]
theorem docsL_snoc : ∀ (a : Int) (b : List Po) (x : Po), docsL a (b ++ [x]) = docsL a b ++ [x.1 - lastOr a b - 1]
  | a, [], x => by simp [docsL, lastOr]
  | a, y :: r, x => by rw [List.cons_append, docsL, docsL, docsL_snoc, lastOr_cons]; rfl
def freqsL (b : List Po) : List Int := b.map fun x => (x.2.length : Int) - 1
def deltaL : Int → List Int → List Int
  | _, [] => []
  | a, x :: r => (x - a) :: deltaL x r
theorem deltaL_len : ∀ (a : Int) (p : List Int), (deltaL a p).length = p.length
  | _, [] => rfl
  | a, x :: r => by simp [deltaL, deltaL_len x r]
def placesL (b : List Po) : List Int := b.flatMap fun x => deltaL 0 x.2
theorem docsL_len : ∀ (a : Int) (b : List Po), (docsL a b).length = b.length
  | _, [] => rfl
  | a, x :: r => by simp [docsL, docsL_len x.1 r]
theorem freqsL_len (b : List Po) : (freqsL b).length = b.length := by simp [freqsL]
theorem placesL_len (b : List Po) : (placesL b).length = sumP b := by
  induction b with
  | nil => rfl
  | cons x r ih => simp only [placesL, List.flatMap_cons, List.length_append, deltaL_len, sumP, List.map_cons, List.sum_cons] at ih ⊢; omega
def rowsB (a : Int) (b : List Po) : List UInt8 := putR (docsL a b) ++ putR (freqsL b) ++ putR (placesL b)
def blkPo (l : List Po) (j : Nat) : List Po := (l.drop (8 * j)).take 8
def aheadPo (l : List Po) (j : Nat) : Int := lastD (l.take (8 * j))
def pieceP (l : List Po) (j : Nat) : List UInt8 := enc (rowsB (aheadPo l j) (blkPo l j)).length ++ enc (lastD (l.take (8 * (j + 1))) - aheadPo l j).toNat ++ rowsB (aheadPo l j) (blkPo l j)
def nbP (n : Nat) : Nat := (n + 7) / 8
def bodP (l : List Po) (j : Nat) : List UInt8 := (List.range j).flatMap (pieceP l)
theorem bodP_succ (l : List Po) (j : Nat) : bodP l (j + 1) = bodP l j ++ pieceP l j := by simp [bodP, List.range_succ]
def buildP (l : List Po) : List UInt8 := enc l.length ++ bodP l (nbP l.length)
/-- what stands behind block j. -/
def tailNP (l : List Po) : Nat → Nat → List UInt8
  | 0, _ => []
  | m + 1, j => pieceP l j ++ tailNP l m (j + 1)
def tailP (l : List Po) (j : Nat) : List UInt8 := tailNP l (nbP l.length - j) j
theorem tailP_step {l : List Po} {j : Nat} (h : j < nbP l.length) : tailP l j = pieceP l j ++ tailP l (j + 1) := by
  unfold tailP
  obtain ⟨m, hm⟩ : ∃ m, nbP l.length - j = m + 1 := ⟨nbP l.length - j - 1, by omega⟩
  rw [hm, tailNP, show nbP l.length - (j + 1) = m by omega]
theorem tailP_end {l : List Po} {j : Nat} (h : nbP l.length ≤ j) : tailP l j = [] := by
  unfold tailP
  rw [show nbP l.length - j = 0 by omega, tailNP]
theorem bod_tail (l : List Po) : ∀ j, j ≤ nbP l.length → tailP l 0 = bodP l j ++ tailP l j
  | 0, _ => by simp [bodP]
  | j + 1, h => by rw [bod_tail l j (by omega), tailP_step (by omega), bodP_succ, List.append_assoc]
theorem buildP_tail (l : List Po) : buildP l = enc l.length ++ tailP l 0 := by rw [bod_tail l _ (Nat.le_refl _), tailP_end (Nat.le_refl _), List.append_nil, buildP]
/-- the form of postings. -/
def FormP (bs : List UInt8) (l : List Po) : Prop := rightP l ∧ buildP l = bs
end Go.Proofs.Ythlbfnoahdjdeaa
namespace Go.Proofs.Ythlbfnoahdjdeaa
set_option linter.unusedVariables false
set_option linter.unusedSimpArgs false
open Go.RowKit

/-- a post, where its positions lie, their slice's capacity. -/
abbrev PoL := Po × Option Addr × Nat
def pRow (p : PoL) : List Value := [.int .i64 p.1.1, .slice p.2.1 p.1.2.length p.2.2]
def pFlat (l : List PoL) : List Value := l.flatMap pRow
theorem pFlat_snoc (l : List PoL) (p : PoL) : pFlat (l ++ [p]) = pFlat l ++ pRow p := by simp [pFlat, List.flatMap_append]
theorem pFlat_len (l : List PoL) : (pFlat l).length = l.length * 2 := by
  induction l with
  | nil => rfl
  | cons p r ih => simp only [pFlat, List.flatMap_cons, List.length_append, List.length_cons] at ih ⊢; simp only [pRow, List.length_cons, List.length_nil]; omega
theorem pFlat_at : ∀ {l : List PoL} {k : Nat} {p : PoL}, l[k]? = some p → (pFlat l)[k * 2]? = some (.int .i64 p.1.1) ∧ (pFlat l)[k * 2 + 1]? = some (.slice p.2.1 p.1.2.length p.2.2)
  | [], k, p, h => by simp at h
  | q :: r, 0, p, h => by simp at h; subst h; exact ⟨rfl, rfl⟩
  | q :: r, k + 1, p, h => by
    have h2 := pFlat_at (l := r) (k := k) (p := p) (by simpa using h)
    have e : pFlat (q :: r) = pRow q ++ pFlat r := rfl
    rw [e, show (k + 1) * 2 = (pRow q).length + k * 2 by simp [pRow]; omega, List.getElem?_append_right (by omega), Nat.add_sub_cancel_left, Nat.add_assoc, List.getElem?_append_right (by omega), Nat.add_sub_cancel_left]
    exact h2
def InI2 (l : List Po) : Prop := ∀ x ∈ l, InI x.2 ∧ -9223372036854775808 ≤ x.1 ∧ x.1 ≤ 9223372036854775807
/-- a row of posts that is read. -/
structure RdPo (w : World) (B : Nat) (A : Option Addr) (l : List Po) : Prop where
  ex : ∃ ps : List PoL, ps.map (·.1) = l ∧ Rd w B A (pFlat ps) ∧ ∀ p ∈ ps, p.1.2.length ≤ p.2.2 ∧ p.2.2 ≤ maxLen ∧ Rd w B p.2.1 (iz .i64 p.1.2)
theorem RdPo.fr {S : Nat → Prop} {w w' : World} {B : Nat} {A : Option Addr} {l : List Po} (h : RdPo w B A l) (f : Fr S w w') (hS : ∀ k, k < B → ¬ S k) : RdPo w' B A l := by
  obtain ⟨ps, h1, h2, h3⟩ := h.ex
  exact ⟨ps, h1, h2.fr f hS, fun p hp => ⟨(h3 p hp).1, (h3 p hp).2.1, (h3 p hp).2.2.fr f hS⟩⟩
theorem RdPo.fr0 {w w' : World} {B : Nat} {A : Option Addr} {l : List Po} (h : RdPo w B A l) (f : Fr No w w') : RdPo w' B A l := h.fr f (fun _ _ h => h)
theorem RdPo.nil (w : World) (B : Nat) : RdPo w B none [] := ⟨[], rfl, Rd.nil _ _ _, fun p hp => nomatch hp⟩
theorem lit_add (a : Addr) (i j : Nat) (hj : j ≠ 0) : (a.add i).add j = ⟨(a.add i).block, (a.add i).off + j, none⟩ := by
  unfold Addr.add
  split <;> split <;> simp_all
/-- a post's two cells. -/
theorem RdPo.at {w : World} {B : Nat} {A : Option Addr} {l : List Po} (h : RdPo w B A l) {k : Nat} (hk : k < l.length) :
    ∃ (ad : Addr) (Ak : Option Addr) (c : Nat), A = some ad ∧ ad.block < B ∧ w.cell? (ad.add (k * 2)) = some (.int .i64 (l.getD k noPo).1) ∧
      w.cell? ⟨(ad.add (k * 2)).block, (ad.add (k * 2)).off + 1, none⟩ = some (.slice Ak (l.getD k noPo).2.length c) ∧ (l.getD k noPo).2.length ≤ c ∧ c ≤ maxLen ∧ Rd w B Ak (iz .i64 (l.getD k noPo).2) := by
  obtain ⟨ps, rfl, h2, h3⟩ := h.ex
  rw [List.length_map] at hk
  obtain ⟨p, hp⟩ : ∃ p, ps[k]? = some p := ⟨_, List.getElem?_eq_getElem hk⟩
  have e : (ps.map (·.1)).getD k noPo = p.1 := by simp [hp]
  rw [e]
  obtain ⟨a1, a2⟩ := pFlat_at hp
  obtain ⟨ad, h4, h5, h6⟩ := h2 _ _ a1
  obtain ⟨ad', h7, h8, h9⟩ := h2 _ _ a2
  rw [h4] at h7
  injection h7 with h7
  subst h7
  have h10 := h3 p (List.mem_of_getElem? hp)
  refine ⟨ad, p.2.1, p.2.2, h4, h5, h6, ?_, h10.1, h10.2.1, h10.2.2⟩
  rw [← lit_add ad (k * 2) 1 (by omega)]
  rw [show (ad.add (k * 2)).add 1 = ad.add (k * 2 + 1) from ?_]
  · exact h9
  · unfold Addr.add
    split <;> split <;> simp_all <;> omega

theorem getZ_mem {p : List Int} {k : Nat} (h : k < p.length) : p.getD k 0 ∈ p := by
  rw [List.getD, List.getElem?_eq_getElem h]
  exact List.getElem_mem _
theorem iz_get {p : List Int} {k : Nat} (h : k < p.length) : (iz .i64 p)[k]? = some (.int .i64 (p.getD k 0)) := by
  simp [iz, List.getElem?_map, List.getElem?_eq_getElem h]
/-- a position that is read. -/
theorem cellInt {w : World} {B : Nat} {A : Option Addr} {p : List Int} (h : Rd w B A (iz .i64 p)) {k : Nat} (hk : k < p.length) : ∃ ad, A = some ad ∧ ad.block < B ∧ w.cell? (ad.add k) = some (.int .i64 (p.getD k 0)) := h k _ (iz_get hk)

set_option maxRecDepth 100000 in
set_option maxHeartbeats 400000 in
theorem nan_any (x : Int) (w : World) : Calls Try.prog 102 #[.int .i64 x] w (Ret (.bool false) w) := by
  have e : (x != x) = false := by simp
  go_enter Try.func102, Try.ntmps102
  go_wp2
  go_ret
  exact ⟨rfl, rfl⟩
set_option maxRecDepth 100000 in
set_option maxHeartbeats 400000 in
theorem less_any (x y : Int) (w : World) : Calls Try.prog 85 #[.int .i64 x, .int .i64 y] w (Ret (.bool (decide (x < y))) w) := by
  have H := hide (nan_any x w)
  obtain ⟨g, hg⟩ : ∃ g : Bool, decide (x < y) = g := ⟨_, rfl⟩
  rw [hg]
  go_enter Try.func85, Try.ntmps85
  go_wp2_with (go_at_call 102; refine H.out.mono ?_; rintro en w2 ⟨rfl, rfl⟩)
  go_ret
  exact ⟨rfl, rfl⟩
set_option maxRecDepth 100000 in
set_option maxHeartbeats 1600000 in
theorem sorted_any (A : Option Addr) (n c B : Nat) (p : List Int) (w : World) (hl : p.length = n) (hn : n ≤ c) (hc : c ≤ maxLen) (hr : Rd w B A (iz .i64 p)) :
    Calls Try.prog 65 #[.slice A n c] w (fun en w' => ∃ b : Bool, (b = true ↔ upL p) ∧ en = .returned (.bool b) ∧ ∃ q, w' = w.drewN q) := by
  have HL := hide hl
  have HR := hide hr
  unfold maxLen at hc
  have HF0 : Hid (∃ q, w = w.drewN q) := hide ⟨0, rfl⟩
  clear hl hr
  go_enter Try.func65, Try.ntmps65
  go_wp2_with (fail)
  go_loopw [3] (fun ix wr => ∃ (k : Nat) (i : Int), Hid (i = (k : Int) - 1) ∧ k ≤ n ∧ ix = .int .i64 i ∧ Hid (∀ j, k ≤ j + 1 → j + 1 < n → p.getD j 0 ≤ p.getD (j + 1) 0) ∧ Hid (∃ q, wr = w.drewN q)) (fun ix _ => (intOf ix).toNat)
  case atStart => exact ⟨n, (n : Int) - 1, hide rfl, Nat.le_refl _, by go_num, hide (fun j h1 h2 => by omega), HF0⟩
  case round =>
    obtain ⟨wo, rfl⟩ : ∃ wo : World, wo = wr := ⟨_, rfl⟩
    obtain ⟨k, i, HI, hk, rfl, HU, HW⟩ := hrel
    clear HF0
    by_cases hlt : 0 < i
    · have d1 : decide ((0 : Int) < i) = true := decide_eq_true hlt
      obtain ⟨j, hj⟩ : ∃ j, k = j + 2 := ⟨k - 2, by have := HI.out; omega⟩
      have hjn : j + 1 < n := by omega
      have hi : i = ((j + 1 : Nat) : Int) := by have := HI.out; omega
      subst hi
      have hrw : Rd wo B A (iz .i64 p) := by obtain ⟨q, rfl⟩ := HW.out; exact HR.out.fr0 ((Fr.refl No w).drewN q)
      obtain ⟨ad, rfl, _, kc1⟩ := cellInt hrw (k := j + 1) (by rw [HL.out]; exact hjn)
      obtain ⟨ad2, h2, _, kc2⟩ := cellInt hrw (k := j) (by rw [HL.out]; omega)
      injection h2 with h2
      subst h2
      obtain ⟨x, hx⟩ : ∃ x, p.getD (j + 1) 0 = x := ⟨_, rfl⟩
      obtain ⟨y, hy⟩ : ∃ y, p.getD j 0 = y := ⟨_, rfl⟩
      rw [hx] at kc1
      rw [hy] at kc2
      obtain ⟨i1, hi1⟩ : ∃ i1 : Nat, j + 1 = i1 := ⟨_, rfl⟩
      rw [hi1] at kc1 hlt d1 ⊢
      have im1 : IntKind.i64.wrap ((i1 : Int) - 1) = (j : Int) := by rw [show (i1 : Int) - 1 = (j : Int) by omega]; exact IntWalk.i64_in _ (by omega)
      have im2 : (i1 : Int) - 1 = (j : Int) := by omega
      have j0 : (0 : Int) ≤ (j : Int) := by omega
      have j1 : (j : Int) < (n : Int) := by omega
      have j2 : (0 : Int) ≤ (i1 : Int) := by omega
      have j3 : (i1 : Int) < (n : Int) := by omega
      have HLs := hide (fun W => (less_any x y W).mono (R' := fun e w' => e = .returned (.bool (decide (x < y))) ∧ w' = W) (fun _ _ h => ⟨h.1, h.2.symm⟩))
      have HX := hide hx
      have HY := hide hy
      have HI1 := hide hi1
      have HJ := hide hj
      obtain ⟨gb, hgb⟩ : ∃ gb : Bool, decide (x < y) = gb := ⟨_, rfl⟩
      rw [hgb] at HLs
      have HGb := hide hgb
      clear hrw hx hy hi1 hj hgb
      cases gb with
      | true =>
        go_wp2_with (fail)
        go_quiet ((go_at_call 85; exact Calls.quiet_of_same (HLs.out _)))
        go_wp2_with (fail)
        go_ret
        refine ⟨false, ⟨(fun h => nomatch h), fun h => ?_⟩, rfl, ?_⟩
        · have h1 := h j (by rw [HL.out]; exact hjn)
          rw [HX.out, HY.out] at h1
          have h2 := of_decide_eq_true HGb.out
          omega
        · obtain ⟨q, hq⟩ := HW.out
          exact ⟨_, by rw [hq]; exact World.drewN_drewN _ _ _⟩
      | false =>
        go_wp2_with (fail)
        go_quiet ((go_at_call 85; exact Calls.quiet_of_same (HLs.out _)))
        go_wp2_with (fail)
        go_roundw
        case rel => exact ⟨j + 1, (j : Int), hide (by omega), by omega, by go_num, hide (fun t h1 h2 => by
            by_cases e : t = j
            · subst e
              rw [HX.out, HY.out]
              have := of_decide_eq_false HGb.out
              omega
            · exact HU.out t (by have := HJ.out; omega) h2), hide (by obtain ⟨q, hq⟩ := HW.out; exact ⟨_, by rw [hq]; exact World.drewN_drewN _ _ _⟩)⟩
        case measure => simp [intOf]; omega
    · have d1 : decide ((0 : Int) < i) = false := decide_eq_false hlt
      have HK1 : Hid (k ≤ 1) := hide (by have := HI.out; omega)
      clear hlt
      go_wp2_with (fail)
      go_ret
      exact ⟨true, ⟨fun _ j hj => HU.out j (by have := HK1.out; omega) (by rw [HL.out] at hj; exact hj), fun _ => rfl⟩, rfl, HW.out⟩
end Go.Proofs.Ythlbfnoahdjdeaa
namespace Go.Proofs.Ythlbfnoahdjdeaa
set_option linter.unusedVariables false
set_option linter.unusedSimpArgs false
open Go.RowKit

theorem len8_cl (k : Nat) (y : Int) (n : Nat) (h : y.toNat < Lib.len8tab.size) (h0 : 0 ≤ y) (hk : k ≤ 56) (hn : n = k + Lib.bitLen y.toNat) : wrap64 ((k : Int) + wrap64 ((Lib.len8tab[y.toNat]'h).toNat : Int)) = n := by
  have e : ((Lib.len8tab[y.toNat]'h).toNat : Int) = Lib.len8 y := by
    unfold Lib.len8
    rw [getElem?_pos Lib.len8tab y.toNat h]
    rfl
  rw [Lib.len8tab_size] at h
  have l := Lib.bitLen_le8' y h0 (by omega)
  rw [e, Lib.len8_of y h0 (by omega)]
  unfold wrap64
  omega
theorem len8_c0 (y : Int) (n : Nat) (h : y.toNat < Lib.len8tab.size) (h0 : 0 ≤ y) (hn : n = Lib.bitLen y.toNat) : wrap64 (wrap64 ((Lib.len8tab[y.toNat]'h).toNat : Int)) = n := by
  have := len8_cl 0 y n h h0 (by omega) (by omega)
  simpa using this

set_option maxHeartbeats 4000000 in
set_option maxRecDepth 100000 in
theorem len64_int (x : Int) (w : World) (h0 : 0 ≤ x) (h1 : x ≤ 18446744073709551615) :
    Calls Try.prog 104 #[.int .u64 x] w fun e w' => e = .returned (.int .i64 (Lib.bitLen x.toNat)) ∧ w' = w := by
  go_enter Try.func104, Try.ntmps104
  go_wp2
  all_goals first
    | (go_ret; refine ⟨congrArg Ending.returned (congrArg (Value.int IntKind.i64) ?_), rfl⟩; go_light)
    | (exfalso; go_light; have hs := Lib.len8tab_size; omega)
  all_goals first
    | (have e : (x / 4294967296 / 65536 / 256).toNat = x.toNat / 72057594037927936 := by omega
       have s := Lib.bitLen_shift56 x.toNat (by omega) (by omega)
       exact len8_cl 56 (x / 4294967296 / 65536 / 256) _ _ (by omega) (by decide) (by rw [e]; exact s))
    | (have e : (x / 4294967296 / 65536).toNat = x.toNat / 281474976710656 := by omega
       have s := Lib.bitLen_shift48 x.toNat (by omega) (by omega)
       exact len8_cl 48 (x / 4294967296 / 65536) _ _ (by omega) (by decide) (by rw [e]; exact s))
    | (have e : (x / 4294967296 / 256).toNat = x.toNat / 1099511627776 := by omega
       have s := Lib.bitLen_shift40 x.toNat (by omega) (by omega)
       exact len8_cl 40 (x / 4294967296 / 256) _ _ (by omega) (by decide) (by rw [e]; exact s))
    | (have e : (x / 4294967296).toNat = x.toNat / 4294967296 := by omega
       have s := Lib.bitLen_shift32 x.toNat (by omega) (by omega)
       exact len8_cl 32 (x / 4294967296) _ _ (by omega) (by decide) (by rw [e]; exact s))
    | (have e : (x / 65536 / 256).toNat = x.toNat / 16777216 := by omega
       have s := Lib.bitLen_shift24 x.toNat (by omega) (by omega)
       exact len8_cl 24 (x / 65536 / 256) _ _ (by omega) (by decide) (by rw [e]; exact s))
    | (have e : (x / 65536).toNat = x.toNat / 65536 := by omega
       have s := Lib.bitLen_shift16 x.toNat (by omega) (by omega)
       exact len8_cl 16 (x / 65536) _ _ (by omega) (by decide) (by rw [e]; exact s))
    | (have e : (x / 256).toNat = x.toNat / 256 := by omega
       have s := Lib.bitLen_shift8 x.toNat (by omega) (by omega)
       exact len8_cl 8 (x / 256) _ _ (by omega) (by decide) (by rw [e]; exact s))
    | exact len8_c0 x _ _ (by omega) rfl
    | (have := len8_cl 0 x _ ‹_› (by omega) (by decide) (Nat.zero_add _).symm; simpa using this)
theorem len64_any (x : Nat) (w : World) (h : x < 18446744073709551616) : Calls Try.prog 104 #[.int .u64 (x : Nat)] w (Ret (.int .i64 (Lib.bitLen x : Nat)) w) :=
  (len64_int x w (by omega) (by omega)).mono fun e w' ⟨h1, h2⟩ => ⟨by rw [h1]; simp, h2.symm⟩
end Go.Proofs.Ythlbfnoahdjdeaa
namespace Go.Proofs.Ythlbfnoahdjdeaa
set_option linter.unusedVariables false
set_option linter.unusedSimpArgs false
open Go.RowKit

set_option maxRecDepth 100000 in
set_option maxHeartbeats 400000 in
theorem size_any (a b : Nat) (w : World) (h : a * b ≤ 4611686018427387904) : Calls Try.prog 97 #[.int .i64 (a : Nat), .int .i64 (b : Nat)] w (Ret (.int .i64 (psz a b : Nat)) w) := by
  have e : (a : Int) * (b : Int) = ((a * b : Nat) : Int) := by simp
  have e2 : (((a * b : Nat) : Int) + 7) / 8 = ((psz a b : Nat) : Int) := by unfold psz; omega
  generalize psz a b = p at e2 ⊢
  generalize a * b = m at h e e2
  go_enter Try.func97, Try.ntmps97
  go_wp2_with (rw [e])
  go_ret
  exact ⟨by rw [← e2]; rfl, rfl⟩

set_option maxRecDepth 100000 in
set_option maxHeartbeats 800000 in
theorem width_any (A : Option Addr) (n c B : Nat) (l : List Nat) (w : World) (hl : l.length = n) (hi : In64 l) (hn : n ≤ c) (hc : c ≤ maxLen) (hr : Rd w B A (nz l)) :
    Calls Try.prog 89 #[.slice A n c] w (Ret (.int .i64 (wid l : Nat)) w) := by
  unfold maxLen at hc
  have HR := hide hr
  have HL := hide hl
  have HI := hide hi
  have HE := hide (fun w => len64_any (orL l) w (orL_64 hi))
  rw [orL_wid hi] at HE
  clear hr hl hi
  go_enter Try.func89, Try.ntmps89
  go_wp2
  go_loop [3, 5, 8] (fun s u i => ∃ k y : Nat, k ≤ n ∧ i = .int .i64 k ∧ s = .int .u64 (y : Nat) ∧ Hid (y = orL (l.take k))) (fun _ _ i => n - (intOf i).toNat)
  case atStart => exact ⟨0, 0, by omega, rfl, rfl, hide rfl⟩
  case round =>
    obtain ⟨k, y, hk, rfl, rfl, HY⟩ := hrel
    by_cases hlt : k < n
    · have h1 : k < l.length := by rw [HL.out]; exact hlt
      obtain ⟨ad, rfl, _, hcell⟩ := HR.out.natAt h1
      have hx := HI.out.at k
      have hy : y < 18446744073709551616 := by rw [HY.out]; exact orL_take HI.out k
      have HS := hide (show y ||| l.getD k 0 = orL (l.take (k + 1)) by rw [take_snocN h1, orL_snoc, HY.out])
      generalize l.getD k 0 = x at hcell hx HS
      have HB := hide (u64_or_nat y x hy hx)
      clear h1
      go_wp2
      go_round
      case rel => exact ⟨k + 1, y ||| x, by omega, by go_num, by rw [HB.out], HS⟩
      case measure => simp [intOf]; omega
    · obtain rfl : k = n := by omega
      have HT := hide (show y = orL l by rw [HY.out, ← HL.out, List.take_length])
      rw [← HT.out] at HE
      clear hlt
      go_wp2_with (go_at_call 104; refine (HE.out _).mono ?_; rintro en w' ⟨rfl, rfl⟩)
      go_ret
      exact ⟨rfl, rfl⟩

/-- is a number beyond so many bits? -/
theorem shr_ne (x k : Nat) : (((x : Int) / 2 ^ k) != 0) = decide (2 ^ k ≤ x) := by
  have e : ((x : Int) / 2 ^ k) = ((x / 2 ^ k : Nat) : Int) := by simp
  rw [e]
  have hp : 0 < 2 ^ k := Nat.two_pow_pos k
  by_cases h : 2 ^ k ≤ x
  · have : x / 2 ^ k ≠ 0 := by
      have := Nat.div_pos h hp
      omega
    rw [decide_eq_true h]
    simp only [bne_iff_ne, ne_eq]
    omega
  · rw [decide_eq_false h, Nat.div_eq_of_lt (by omega)]
    rfl

end Go.Proofs.Ythlbfnoahdjdeaa
namespace Go.Proofs.Ythlbfnoahdjdeaa
set_option linter.unusedVariables false
set_option linter.unusedSimpArgs false
open Go.RowKit

section
variable {P : Program} (w : World)
/-- append onto a slice of the call's own, from whatever source. -/
theorem run_append_wide (base : Nat) (t tx ty e : TypeId) (i : TypeInfo) (z : Value) (size bytes : Nat) (ht : P.underlying t = some (.slice e)) (hi : P.info? e = some i) (hz : i.zero = some z)
    (hsize : i.size = size) (hby : i.bytes = bytes) (hzs : z.cells.size = size)
    (v : Value) (n : Nat) (xs : List Value) (hown : Own w base e size v n xs) (x : Value) (m : Nat) (news : List Value) (hs : Src P size tx x m news w)
    (hbytes : ((n + m) + (n + m) / 4 + 192) * bytes ≤ 281474976710656) (h63 : n + m ≤ maxLen) (hbase : base ≤ w.heap.size) :
    ∃ v' w', (Builtin.append_ #[t, tx] ty #[v, x]).run P w = .ok v' w' ∧ Own w' base e size v' (n + m) (xs ++ news) ∧ Fr (fun k => v.ownBlock = some k) w w' ∧
      (v'.ownBlock = v.ownBlock ∨ v'.ownBlock = some w.heap.size) := by
  subst hsize
  subst hby
  have hlen : (xs ++ news).length = (n + m) * i.size := by rw [List.length_append, hown.1, hs.newsLen, Nat.add_mul]
  have h63' : n + m ≤ 9223372036854775807 := by simp only [maxLen] at h63; omega
  have hown' := hown
  obtain ⟨hl, A, c, rfl, hc, hm, hA⟩ := hown
  by_cases hroom : n + m ≤ c
  · rcases hA with ⟨rfl, rfl⟩ | ⟨g, cur, rfl, hb, hh, hcs, htk⟩
    · have hn0 : n = 0 := by omega
      have hm0 : m = 0 := by omega
      subst hn0; subst hm0
      have h1 : xs = [] := List.eq_nil_of_length_eq_zero (by simpa using hl)
      have h2 : news = [] := List.eq_nil_of_length_eq_zero (by simpa using hs.newsLen)
      subst h1; subst h2
      refine ⟨.slice none 0 0, w, ?_, Own.nil _ _ _ _, Fr.refl _ _, .inl rfl⟩
      rcases hs.kind with ⟨e', hk⟩ | hk <;> simp [Builtin.append_, run_underlying ht, run_underlying hk, sizeOf, typeInfo, hi, hs.len, hs.cells]
    · have hfit : n * i.size + news.length ≤ cur.size := by
        rw [hs.newsLen, ← Nat.add_mul]
        exact Nat.le_trans (Nat.mul_le_mul_right _ hroom) hcs
      have hst := run_storeCells_at P g (n * i.size) e news 0 cur w hh (by simpa using hfit) hs.one
      simp only [Nat.add_zero] at hst
      refine ⟨.slice (some ⟨g, 0, none⟩) (n + m) c, w.setRow g (cur.toList.take (n * i.size) ++ news ++ cur.toList.drop (n * i.size + news.length)).toArray, ?_, ⟨hlen, _, c, rfl, hroom, hm, .inr ⟨g, _, rfl, hb, setRow_heap w g cur _ e _ hh, ?_, ?_⟩⟩, ⟨rfl, rfl, rfl, by simp, fun k _ hk => setRow_other w g k _ (fun e => hk (by simp [Value.ownBlock, e]))⟩, .inl rfl⟩
      · rcases hs.kind with ⟨e', hk⟩ | hk <;> simp [Builtin.append_, run_underlying ht, run_underlying hk, sizeOf, typeInfo, hi, hs.len, hroom, hs.cells, Addr.add_lit, hst]
      · simp only [List.size_toArray, List.length_append, List.length_take, List.length_drop, Array.length_toList]
        omega
      · rw [htk, ← hlen]
        exact List.take_left
  · have hold : (Builtin.firstCells i.size n (.slice A n c)).run P w.drew = .ok xs.toArray w.drew := by
      rcases A with _ | ad
      · have hn0 : n = 0 := by
          rcases hA with ⟨_, h0⟩ | ⟨g, _, h, _⟩
          · omega
          · cases h
        subst hn0
        have h1 : xs = [] := List.eq_nil_of_length_eq_zero (by simpa using hl)
        subst h1
        simp [run_firstCells_none]
      · refine run_firstCells_some (P := P) w.drew i.size n ad n c xs hl (fun j u hu => ?_)
        obtain ⟨ad', e', _, hc'⟩ := hown'.rd j u hu
        injection e' with e'
        subst e'
        exact hc'
    have hr := run_append_grow_src (P := P) w t tx ty e i z ht hi hz A n c xs hold x m news hs (by omega) (by omega) (growslice_fits_wide (by omega) hbytes)
    have hge := grownCap_ge w (n + m) c e
    have hcm : grownCap w (n + m) c e ≤ maxLen := grownCap_le_maxLen w (n + m) c e h63
    refine ⟨_, _, hr, ⟨hlen, _, _, rfl, hge, hcm, .inr ⟨w.heap.size, _, rfl, hbase, heap_alloc_new w.drew _, ?_, ?_⟩⟩, ⟨rfl, rfl, rfl, by simp, fun k hk _ => Below.heap_alloc w.drew _ k hk⟩, .inr rfl⟩
    · rw [Array.size_append, List.size_toArray, size_zeroCells, hzs, hlen, ← Nat.add_mul]
      exact Nat.le_of_eq (by congr 1; omega)
    · rw [Array.toList_append, ← hlen]
      exact List.take_left

theorem wp_append_wide {o : Oper} {a : Act} {K : Act → World → Prop} {Q : Exit → Act → World → Prop} (s x : Operand) (t tx : TypeId)
    (ho : o.op = .call { callee := .builtin .append, args := #[s, x], argTypes := #[t, tx] })
    (base : Nat) (e : TypeId) (i : TypeInfo) (z : Value) (size bytes : Nat) (ht : P.underlying t = some (.slice e)) (hi : P.info? e = some i) (hz : i.zero = some z)
    (hsize : i.size = size) (hby : i.bytes = bytes) (hzs : z.cells.size = size)
    (v : Value) (n : Nat) (xs : List Value) (hs : a.eval s = v) (hown : Own w base e size v n xs)
    (y : Value) (m : Nat) (news : List Value) (hx : a.eval x = y) (hsrc : Src P size tx y m news w)
    (hbytes : ((n + m) + (n + m) / 4 + 192) * bytes ≤ 281474976710656) (h63 : n + m ≤ maxLen) (hbase : base ≤ w.heap.size)
    (h : ∀ v' w', Own w' base e size v' (n + m) (xs ++ news) → Fr (fun k => v.ownBlock = some k) w w' → (v'.ownBlock = v.ownBlock ∨ v'.ownBlock = some w.heap.size) → K (a.put o.dst v') w') : o.wp P a w K Q := by
  obtain ⟨v', w', hrun, h2, h3, h4⟩ := run_append_wide (P := P) w base t tx o.type e i z size bytes ht hi hz hsize hby hzs v n xs hown y m news hsrc hbytes h63 hbase
  unfold Oper.wp execOp
  simp only [ho, resolve, invoke, builtin, Sem.run_bind, Sem.run_pure, Result.andThen_ok, List.map_toArray, List.map_cons, List.map_nil, hs, hx, hrun]
  exact h v' w' h2 h3 h4

theorem wpList_append_wide {ops : Array Oper} {rest : List Oper} {o : Oper} {a : Act} {Q : Exit → Act → World → Prop} (hgd : o.guard = none) (s x : Operand) (t tx : TypeId)
    (ho : o.op = .call { callee := .builtin .append, args := #[s, x], argTypes := #[t, tx] })
    (base : Nat) (e : TypeId) (i : TypeInfo) (z : Value) (size bytes : Nat) (ht : P.underlying t = some (.slice e)) (hi : P.info? e = some i) (hz : i.zero = some z)
    (hsize : i.size = size) (hby : i.bytes = bytes) (hzs : z.cells.size = size)
    (v : Value) (n : Nat) (xs : List Value) (hs : a.eval s = v) (hown : Own w base e size v n xs)
    (y : Value) (m : Nat) (news : List Value) (hx : a.eval x = y) (hsrc : Src P size tx y m news w)
    (hbytes : ((n + m) + (n + m) / 4 + 192) * bytes ≤ 281474976710656) (h63 : n + m ≤ maxLen) (hbase : base ≤ w.heap.size)
    (h : ∀ v' w', Own w' base e size v' (n + m) (xs ++ news) → Fr (fun k => v.ownBlock = some k) w w' → (v'.ownBlock = v.ownBlock ∨ v'.ownBlock = some w.heap.size) → wpList P ops Q rest (a.put o.dst v') w') : wpList P ops Q (o :: rest) a w :=
  wpList_plain hgd fun _ hK => wp_append_wide w s x t tx ho base e i z size bytes ht hi hz hsize hby hzs v n xs hs hown y m news hx hsrc hbytes h63 hbase fun v' w' h2 h3 h4 => hK _ _ (h v' w' h2 h3 h4)


/-- append onto a slice that has no room: a new block, whatever the old one is. -/
theorem run_append_full (base : Nat) (t tx ty e : TypeId) (i : TypeInfo) (z : Value) (size bytes : Nat) (ht : P.underlying t = some (.slice e)) (hi : P.info? e = some i) (hz : i.zero = some z)
    (hsize : i.size = size) (hby : i.bytes = bytes) (hzs : z.cells.size = size)
    (A : Option Addr) (n c B : Nat) (xs : List Value) (hl : xs.length = n * size) (hsz : 0 < size) (hr : Rd w B A xs) (x : Value) (m : Nat) (news : List Value) (hs : Src P size tx x m news w) (hfull : c < n + m)
    (hbytes : ((n + m) + (n + m) / 4 + 192) * bytes ≤ 281474976710656) (h63 : n + m ≤ maxLen) (hbase : base ≤ w.heap.size) :
    ∃ v' w', (Builtin.append_ #[t, tx] ty #[.slice A n c, x]).run P w = .ok v' w' ∧ Own w' base e size v' (n + m) (xs ++ news) ∧ Fr No w w' := by
  subst hsize
  subst hby
  have hlen : (xs ++ news).length = (n + m) * i.size := by rw [List.length_append, hl, hs.newsLen, Nat.add_mul]
  have h63' : n + m ≤ 9223372036854775807 := by simp only [maxLen] at h63; omega
  have hold : (Builtin.firstCells i.size n (.slice A n c)).run P w.drew = .ok xs.toArray w.drew := by
    rcases A with _ | ad
    · have h1 : xs = [] := by
        cases xs with
        | nil => rfl
        | cons u us => obtain ⟨_, h, _⟩ := hr 0 u rfl; cases h
      subst h1
      have hn0 : n = 0 := by
        rcases Nat.mul_eq_zero.1 hl.symm with h | h
        · exact h
        · omega
      subst hn0
      simp [run_firstCells_none]
    · refine run_firstCells_some (P := P) w.drew i.size n ad n c xs hl (fun j u hu => ?_)
      obtain ⟨ad', e', _, hc'⟩ := hr j u hu
      injection e' with e'
      subst e'
      exact hc'
  have hr := run_append_grow_src (P := P) w t tx ty e i z ht hi hz A n c xs hold x m news hs (by omega) (by omega) (growslice_fits_wide (by omega) hbytes)
  have hge := grownCap_ge w (n + m) c e
  have hcm : grownCap w (n + m) c e ≤ maxLen := grownCap_le_maxLen w (n + m) c e h63
  refine ⟨_, _, hr, ⟨hlen, _, _, rfl, hge, hcm, .inr ⟨w.heap.size, _, rfl, hbase, heap_alloc_new w.drew _, ?_, ?_⟩⟩, ⟨rfl, rfl, rfl, by simp, fun k hk _ => Below.heap_alloc w.drew _ k hk⟩⟩
  · rw [Array.size_append, List.size_toArray, size_zeroCells, hzs, hlen, ← Nat.add_mul]
    exact Nat.le_of_eq (by congr 1; omega)
  · rw [Array.toList_append, ← hlen]
    exact List.take_left
theorem wpList_append_full {ops : Array Oper} {rest : List Oper} {o : Oper} {a : Act} {Q : Exit → Act → World → Prop} (hgd : o.guard = none) (s x : Operand) (t tx : TypeId)
    (ho : o.op = .call { callee := .builtin .append, args := #[s, x], argTypes := #[t, tx] })
    (base : Nat) (e : TypeId) (i : TypeInfo) (z : Value) (size bytes : Nat) (ht : P.underlying t = some (.slice e)) (hi : P.info? e = some i) (hz : i.zero = some z)
    (hsize : i.size = size) (hby : i.bytes = bytes) (hzs : z.cells.size = size)
    (A : Option Addr) (n c B : Nat) (xs : List Value) (hs : a.eval s = .slice A n c) (hl : xs.length = n * size) (hsz : 0 < size) (hr : Rd w B A xs)
    (y : Value) (m : Nat) (news : List Value) (hx : a.eval x = y) (hsrc : Src P size tx y m news w) (hfull : c < n + m)
    (hbytes : ((n + m) + (n + m) / 4 + 192) * bytes ≤ 281474976710656) (h63 : n + m ≤ maxLen) (hbase : base ≤ w.heap.size)
    (h : ∀ v' w', Own w' base e size v' (n + m) (xs ++ news) → Fr No w w' → wpList P ops Q rest (a.put o.dst v') w') : wpList P ops Q (o :: rest) a w :=
  wpList_plain hgd fun _ hK => by
    obtain ⟨v', w', hrun, h2, h3⟩ := run_append_full (P := P) w base t tx o.type e i z size bytes ht hi hz hsize hby hzs A n c B xs hl hsz hr y m news hsrc hfull hbytes h63 hbase
    unfold Oper.wp execOp
    simp only [ho, resolve, invoke, builtin, Sem.run_bind, Sem.run_pure, Result.andThen_ok, List.map_toArray, List.map_cons, List.map_nil, hs, hx, hrun]
    exact hK _ _ (h v' w' h2 h3)
end
/-- new bytes, as a literal lays them. -/
theorem own_new8 (w : World) (cs : Array Value) (n : Nat) (bs : List UInt8) (e : TypeId) (h : cs.toList = by8 bs) (hn : bs.length = n) (hm : n ≤ maxLen) :
    Own (w.alloc (.cells cs e)) w.heap.size e 1 (.slice (some ⟨w.heap.size, 0, none⟩) n n) n (by8 bs) := by
  subst hn
  have hl : cs.size = bs.length := by
    have := congrArg List.length h
    rw [by8_length] at this
    simpa using this
  exact ⟨by rw [by8_length, Nat.mul_one], _, _, rfl, Nat.le_refl _, hm, .inr ⟨w.heap.size, cs, rfl, Nat.le_refl _, heap_alloc_new w _, by omega, by rw [h, Nat.mul_one, List.take_of_length_le (by rw [by8_length]; exact Nat.le_refl _)]⟩⟩
/-- a block's cells, as they stand. -/
theorem Rd.block {w : World} {g : Nat} {cs : Array Value} {e : TypeId} {fz : Nat × Nat} (hg : w.heap[g]? = some (.cells cs e fz)) : Rd w (g + 1) (some ⟨g, 0, none⟩) cs.toList := fun j u hu => by
  refine ⟨_, rfl, by simp, ?_⟩
  rw [Addr.add_lit, Nat.zero_add, cell_of_row w g j cs e fz hg]
  simpa using hu
end Go.Proofs.Ythlbfnoahdjdeaa
