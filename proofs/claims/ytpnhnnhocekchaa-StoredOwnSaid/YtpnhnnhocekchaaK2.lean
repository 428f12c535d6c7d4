/- Several texts in one: Base, Ints, RefA, WordsP, PackP, Slices8, Rd. -/
import Derived.Test.YtpnhnnhocekchaaK1
import Derived.Laws.BitsAllLaws
import Derived.Lib.TrailingZeros
import Derived.Lib.BitFns
namespace Go.Proofs.Ytpnhnnhocekchaa
set_option linter.unusedVariables false
set_option linter.unusedSimpArgs false
open Go.RowKit

def Ret (v : Value) (w : World) (en : Ending) (w' : World) : Prop := en = .returned v ∧ w = w'

/-- quiet: a value; nothing has changed but the draws. -/
def RetQ (v : Value) (w : World) (en : Ending) (w' : World) : Prop := en = .returned v ∧ ∃ n, w' = w.drewN n

/-- a bool, and nothing that was there has changed. -/
def RetB (b : Bool) (w : World) (en : Ending) (w' : World) : Prop := en = .returned (.bool b) ∧ Fr No w w'

def RetF (v : Value) (w : World) (en : Ending) (w' : World) : Prop := en = .returned v ∧ Fr No w w'

theorem Try.info5 : (Try.prog.info? 5).map (fun i => (i.zero, i.size, i.bytes)) = some (some (.int .u8 0), 1, 1) := by kernel_rfl

/-- new bytes. -/
def GivesB (w : World) (bs : List UInt8) (en : Ending) (w' : World) : Prop := ∃ v, en = .returned v ∧ Own w' w.heap.size 5 1 v bs.length (by8 bs) ∧ Fr No w w'

theorem own_empty (w : World) (e : TypeId) : Own (w.alloc (.cells #[] e)) w.heap.size e 1 (.slice (some ⟨w.heap.size, 0, none⟩) 0 0) 0 [] :=
  ⟨by simp, _, 0, rfl, Nat.le_refl _, Nat.zero_le _, .inr ⟨w.heap.size, #[], rfl, Nat.le_refl _, heap_alloc_new w _, by simp, by simp⟩⟩

theorem Rd.len0 {w : World} {B : Nat} {bs : List UInt8} (h : Rd w B none (by8 bs)) : bs = [] := by
  cases bs with
  | nil => rfl
  | cons b r => obtain ⟨_, e, _⟩ := h 0 _ rfl; cases e

/-- a new block of bytes, read. -/
theorem Rd.new8 (w : World) (cs : Array Value) (bs : List UInt8) (e : TypeId) (h : cs.toList = by8 bs) : Rd (w.alloc (.cells cs e)) (w.alloc (.cells cs e)).heap.size (some ⟨w.heap.size, 0, none⟩) (by8 bs) := by
  intro j u hu
  refine ⟨_, rfl, by simp, ?_⟩
  rw [Addr.add_lit, Nat.zero_add, cell_of_row _ w.heap.size j cs e (0, 0) (heap_alloc_new w _)]
  rw [← h] at hu
  simpa using hu

theorem give_slice {W w' : World} {en : Ending} {t : List UInt8} {k : Nat} (hk : t.length = k) (h : GivesB W t en w') :
    ∃ A1 c1, en = .returned (.slice A1 k c1) ∧ k ≤ c1 ∧ c1 ≤ maxLen ∧ Rd w' w'.heap.size A1 (by8 t) ∧ Fr No W w' := by
  subst hk
  obtain ⟨v, rfl, ho, hf⟩ := h
  obtain ⟨A1, c1, rfl, h1, h2, _, h3, _⟩ := ho.form
  exact ⟨A1, c1, rfl, h1, h2, h3, hf⟩

theorem Fr.own1 {a b c : World} {g : Nat} (h : Fr No a b) (k : Fr (Is g) b c) (hg : a.heap.size ≤ g) : Fr No a c :=
  h.trans k (fun i hi e => by have : i = g := e; omega)

theorem box0 (w : World) (v : Value) (t : TypeId) : (w.alloc (.cells #[v] t)).cell? ⟨w.heap.size, 0, none⟩ = some v :=
  cell_of_row _ w.heap.size 0 #[v] t (0, 0) (heap_alloc_new w _)

theorem box1 (w : World) (v1 v2 : Value) (t1 t2 : TypeId) : ((w.alloc (.cells #[v1] t1)).alloc (.cells #[v2] t2)).cell? ⟨w.heap.size, 0, none⟩ = some v1 :=
  cell_of_row _ w.heap.size 0 #[v1] t1 (0, 0) ((Below.heap_alloc (w.alloc (.cells #[v1] t1)) _ w.heap.size (by simp)).trans (heap_alloc_new w _))

theorem box2 (w : World) (v1 v2 : Value) (t1 t2 : TypeId) : ((w.alloc (.cells #[v1] t1)).alloc (.cells #[v2] t2)).cell? ⟨w.heap.size + 1, 0, none⟩ = some v2 := by
  have h := heap_alloc_new (w.alloc (.cells #[v1] t1)) (.cells #[v2] t2)
  have e : (w.alloc (.cells #[v1] t1)).heap.size = w.heap.size + 1 := by simp
  rw [e] at h
  exact cell_of_row _ (w.heap.size + 1) 0 #[v2] t2 (0, 0) h

theorem take_succ_eq {xs ys : List UInt8} {k : Nat} (h1 : k < xs.length) (h2 : k < ys.length) (h : xs.take k = ys.take k) (he : xs.getD k 0 = ys.getD k 0) : xs.take (k + 1) = ys.take (k + 1) := by
  rw [List.take_succ_eq_append_getElem h1, List.take_succ_eq_append_getElem h2, h]
  simp [List.getElem?_eq_getElem h1, List.getElem?_eq_getElem h2] at he
  rw [he]

theorem take_snoc8 {l : List UInt8} {k : Nat} (h : k < l.length) : l.take (k + 1) = l.take k ++ [l.getD k 0] := by
  rw [List.take_succ_eq_append_getElem h]
  simp [List.getElem?_eq_getElem h]

theorem byteCells_by8 (s : ByteArray) : (byteCells s : List Value) = by8 s.data.toList := by simp [byteCells, by8]

end Go.Proofs.Ytpnhnnhocekchaa
namespace Go.Proofs.Ytpnhnnhocekchaa
set_option linter.unusedVariables false
set_option linter.unusedSimpArgs false
open Go.RowKit

def iz (k : IntKind) (l : List Int) : List Value := l.map (Value.int k)
theorem iz_len (k : IntKind) (l : List Int) : (iz k l).length = l.length := by simp [iz]
theorem iz_append (k : IntKind) (l m : List Int) : iz k (l ++ m) = iz k l ++ iz k m := by simp [iz]
theorem iz_take (k : IntKind) (l : List Int) (n : Nat) : iz k (l.take n) = (iz k l).take n := by simp [iz, List.map_take]
theorem iz_drop (k : IntKind) (l : List Int) (n : Nat) : iz k (l.drop n) = (iz k l).drop n := by simp [iz, List.map_drop]
theorem iz_one (k : IntKind) (l : List Int) : ∀ u ∈ iz k l, u.oneCell' = true := by
  intro u hu
  obtain ⟨x, _, rfl⟩ := List.mem_map.1 hu
  rfl
theorem iz_at (k : IntKind) (l : List Int) {j : Nat} (h : j < l.length) : (iz k l)[j]? = some (.int k (l.getD j 0)) := by
  simp [iz, h]
theorem Rd.intAt {w : World} {B : Nat} {A : Option Addr} {k : IntKind} {l : List Int} (h : Rd w B A (iz k l)) {j : Nat} (hj : j < l.length) : ∃ ad, A = some ad ∧ ad.block < B ∧ w.cell? (ad.add j) = some (.int k (l.getD j 0)) :=
  h j _ (iz_at k l hj)
theorem take_succ_int {xs ys : List Int} {k : Nat} (h1 : k < xs.length) (h2 : k < ys.length) (h : xs.take k = ys.take k) (he : xs.getD k 0 = ys.getD k 0) : xs.take (k + 1) = ys.take (k + 1) := by
  rw [List.take_succ_eq_append_getElem h1, List.take_succ_eq_append_getElem h2, h]
  simp [List.getElem?_eq_getElem h1, List.getElem?_eq_getElem h2] at he
  rw [he]
theorem take_snoc_int {l : List Int} {k : Nat} (h : k < l.length) : l.take (k + 1) = l.take k ++ [l.getD k 0] := by
  rw [List.take_succ_eq_append_getElem h]
  simp [List.getElem?_eq_getElem h]
theorem Rd.iz_nil {w : World} {B : Nat} {k : IntKind} {l : List Int} (h : Rd w B none (iz k l)) : l = [] := by
  cases l with
  | nil => rfl
  | cons b r => obtain ⟨_, e, _⟩ := h 0 _ rfl; cases e
end Go.Proofs.Ytpnhnnhocekchaa
namespace Go.Proofs.Ytpnhnnhocekchaa
set_option linter.unusedVariables false
set_option linter.unusedSimpArgs false
open Go.RowKit

theorem encF_at : ∀ (f u i : Nat) (h : i < (encF f u).length), u < 2 ^ (7 * (f + 1)) → ((encF f u)[i]).toNat = u / 2 ^ (7 * i) % 128 + (if i + 1 < (encF f u).length then 128 else 0)
  | 0, u, i, h, hu => by
    have hi : i = 0 := by simp [encF] at h; exact h
    subst hi
    have hu' : u < 128 := by simpa using hu
    have e : (if 0 + 1 < (encF 0 u).length then 128 else 0) = 0 := if_neg (by simp [encF])
    rw [e]
    simp only [encF, List.getElem_cons_zero]
    rw [ofNat_toNat (by omega)]
    simp; omega
  | f + 1, u, i, h, hu => by
    by_cases hb : 127 < u
    · have e0 : encF (f + 1) u = UInt8.ofNat (u % 128 + 128) :: encF f (u / 128) := by rw [encF, if_pos hb]
      have hl := (encF_len f (u / 128)).1
      cases i with
      | zero =>
        simp only [e0, List.getElem_cons_zero, List.length_cons]
        rw [ofNat_toNat (by omega), if_pos (by omega)]
        simp
      | succ j =>
        have hj : j < (encF f (u / 128)).length := by rw [e0] at h; simpa using h
        have hu' : u / 128 < 2 ^ (7 * (f + 1)) := by rw [pow7] at hu; omega
        have ih := encF_at f (u / 128) j hj hu'
        simp only [e0, List.getElem_cons_succ, List.length_cons]
        rw [ih, Nat.div_div_eq_div_mul, pow7]
        congr 1
        by_cases hc : j + 1 < (encF f (u / 128)).length
        · rw [if_pos hc, if_pos (by omega)]
        · rw [if_neg hc, if_neg (by omega)]
    · have e0 : encF (f + 1) u = [UInt8.ofNat u] := by rw [encF, if_neg hb]
      have hi : i = 0 := by rw [e0] at h; simpa using h
      subst hi
      simp only [e0, List.getElem_cons_zero, List.length_cons, List.length_nil]
      rw [ofNat_toNat (by omega), if_neg (by omega)]
      simp; omega

theorem encF_more : ∀ (f u i : Nat), 1 ≤ i → i ≤ (encF f u).length → (i < (encF f u).length ↔ (i < f + 1 ∧ 0 < u / 2 ^ (7 * i)))
  | 0, u, i, h1, h2 => by
    have e : (encF 0 u).length = 1 := by simp [encF]
    rw [e] at h2 ⊢
    omega
  | f + 1, u, i, h1, h2 => by
    obtain ⟨j, rfl⟩ : ∃ j, i = j + 1 := ⟨i - 1, by omega⟩
    by_cases hb : 127 < u
    · have e0 : encF (f + 1) u = UInt8.ofNat (u % 128 + 128) :: encF f (u / 128) := by rw [encF, if_pos hb]
      have hl := (encF_len f (u / 128)).1
      rw [e0, List.length_cons] at h2 ⊢
      cases j with
      | zero =>
        have : 0 < u / 2 ^ (7 * (0 + 1)) := by simp; omega
        constructor
        · intro _; exact ⟨by omega, this⟩
        · intro _; omega
      | succ j =>
        have ih := encF_more f (u / 128) (j + 1) (by omega) (by omega)
        rw [Nat.div_div_eq_div_mul, ← pow7] at ih
        constructor
        · intro h; have := ih.1 (by omega); exact ⟨by omega, this.2⟩
        · intro h; have := ih.2 ⟨by omega, h.2⟩; omega
    · have e0 : encF (f + 1) u = [UInt8.ofNat u] := by rw [encF, if_neg hb]
      rw [e0, List.length_cons, List.length_nil] at h2 ⊢
      have : j = 0 := by omega
      subst this
      have : u / 2 ^ (7 * (0 + 1)) = 0 := by simp; omega
      rw [this]
      omega

theorem u64_pow {u : Nat} (h : u < 18446744073709551616) : u < 2 ^ (7 * (9 + 1)) := by
  have e : (2 : Nat) ^ (7 * (9 + 1)) = 1180591620717411303424 := by decide
  rw [e]; omega
theorem enc_at {u i : Nat} (hu : u < 18446744073709551616) (h : i < (enc u).length) : ((enc u).getD i 0).toNat = u / 2 ^ (7 * i) % 128 + (if i + 1 < (enc u).length then 128 else 0) := by
  have := encF_at 9 u i h (u64_pow hu)
  simp only [List.getD_eq_getElem?_getD, List.getElem?_eq_getElem h, Option.getD_some]
  exact this
theorem enc_more {u i : Nat} (h1 : 1 ≤ i) (h2 : i ≤ (enc u).length) : (i < (enc u).length ↔ (i < 10 ∧ 0 < u / 2 ^ (7 * i))) := encF_more 9 u i h1 h2
theorem enc_len (u : Nat) : 1 ≤ (enc u).length ∧ (enc u).length ≤ 10 := encF_len 9 u

/-- how many bytes above 127 stand ahead. -/
def lead : List UInt8 → Nat
  | [] => 0
  | b :: r => if 127 < b.toNat then lead r + 1 else 0
/-- the value of groups. -/
def gval : List UInt8 → Nat
  | [] => 0
  | b :: r => b.toNat % 128 + 128 * gval r

theorem lead_encF : ∀ (f u : Nat) (rest : List UInt8), u < 2 ^ (7 * (f + 1)) → lead (encF f u ++ rest) + 1 = (encF f u).length
  | 0, u, rest, hu => by
    have hu' : u < 128 := by simpa using hu
    simp only [encF, List.cons_append, List.nil_append, lead]
    rw [ofNat_toNat (by omega), if_neg (by omega)]
    rfl
  | f + 1, u, rest, hu => by
    by_cases hb : 127 < u
    · rw [encF, if_pos hb, List.cons_append, lead, ofNat_toNat (by omega), if_pos (by omega), List.length_cons, lead_encF f (u / 128) rest (by rw [pow7] at hu; omega)]
    · rw [encF, if_neg hb, List.cons_append, lead, ofNat_toNat (by omega), if_neg (by omega)]
      rfl
theorem gval_encF : ∀ (f u : Nat), u < 2 ^ (7 * (f + 1)) → gval (encF f u) = u
  | 0, u, hu => by
    have hu' : u < 128 := by simpa using hu
    simp only [encF, gval]
    rw [ofNat_toNat (by omega)]
    omega
  | f + 1, u, hu => by
    by_cases hb : 127 < u
    · rw [encF, if_pos hb, gval, ofNat_toNat (by omega), gval_encF f (u / 128) (by rw [pow7] at hu; omega)]
      omega
    · rw [encF, if_neg hb, gval, ofNat_toNat (by omega)]
      simp only [gval]
      omega

theorem dec_parts {bs : List UInt8} {u k : Nat} (h : dec 0 0 bs = some (u, k)) : lead bs + 1 = k ∧ gval (bs.take k) = u ∧ u < 18446744073709551616 ∧ k ≤ 10 ∧ k ≤ bs.length ∧ enc u = bs.take k := by
  have hu := dec_lt _ 0 0 u k (by decide) h
  have he := enc_dec h
  have hl := enc_len u
  have hb : bs = enc u ++ bs.drop k := by rw [he, List.take_append_drop]
  have hk : (enc u).length = k ∧ k ≤ bs.length := by
    have h2 := dec_enc u hu (bs.drop k)
    rw [← hb, h] at h2
    injection h2 with h2
    injection h2 with _ h2
    refine ⟨h2.symm, ?_⟩
    have : (bs.take k).length = k := by rw [← he]; exact h2.symm
    rw [List.length_take] at this
    omega
  refine ⟨?_, ?_, hu, by omega, hk.2, he⟩
  · have := lead_encF 9 u (bs.drop k) (u64_pow hu)
    rw [hb]
    rw [← hk.1]
    rw [hk.1]
    exact this.trans hk.1
  · rw [← he]; exact gval_encF 9 u (u64_pow hu)

theorem ref_none1 {bs : List UInt8} (h : bs.length ≤ lead bs ∨ 9 < lead bs) : dec 0 0 bs = none := by
  cases hd : dec 0 0 bs with
  | none => rfl
  | some x =>
    obtain ⟨h1, _, _, h4, h5, _⟩ := dec_parts (u := x.1) (k := x.2) hd
    omega
theorem ref_none2 {bs : List UInt8} (h : enc (gval (bs.take (lead bs + 1)) % 18446744073709551616) ≠ bs.take (lead bs + 1)) : dec 0 0 bs = none := by
  cases hd : dec 0 0 bs with
  | none => rfl
  | some x =>
    obtain ⟨h1, h2, h3, h4, h5, h6⟩ := dec_parts (u := x.1) (k := x.2) hd
    rw [h1, h2, Nat.mod_eq_of_lt h3] at h
    exact absurd h6 h
theorem ref_some {bs : List UInt8} {u k : Nat} (hu : u < 18446744073709551616) (hk : k ≤ bs.length) (h : enc u = bs.take k) : dec 0 0 bs = some (u, k) := by
  have h2 := dec_enc u hu (bs.drop k)
  rw [h, List.take_append_drop] at h2
  rw [h2]
  congr 2
  rw [List.length_take]; omega

theorem lead_step {bs : List UInt8} {k : Nat} (h : k < bs.length) (hb : 127 < (bs.getD k 0).toNat) (hk : lead bs = k + lead (bs.drop k)) : lead bs = (k + 1) + lead (bs.drop (k + 1)) := by
  rw [hk, List.drop_eq_getElem_cons h, lead]
  have e : bs.getD k 0 = bs[k] := by simp [List.getElem?_eq_getElem h]
  rw [e] at hb
  rw [if_pos hb]
  omega
theorem lead_stop {bs : List UInt8} {k : Nat} (h : bs.length ≤ k ∨ ¬ 127 < (bs.getD k 0).toNat) (hk : lead bs = k + lead (bs.drop k)) : lead bs = k := by
  by_cases hl : bs.length ≤ k
  · rw [hk, List.drop_eq_nil_of_le hl]; rfl
  · have hl' : k < bs.length := by omega
    have e : bs.getD k 0 = bs[k] := by simp [List.getElem?_eq_getElem hl']
    have hb : ¬ 127 < bs[k].toNat := by rw [e] at h; omega
    rw [hk, List.drop_eq_getElem_cons hl', lead, if_neg hb]
    rfl

/-- the groups of bytes j .. k, the last one first. -/
def gv (bs : List UInt8) (k j : Nat) : Nat := gval ((bs.take k).drop j) % 18446744073709551616
theorem gv_end (bs : List UInt8) (k : Nat) : gv bs k k = 0 := by
  unfold gv
  rw [List.drop_eq_nil_of_le (by simp; omega)]
  rfl
theorem gv_step {bs : List UInt8} {k j : Nat} (hj : j < k) (hk : k ≤ bs.length) :
    bits .or .u64 (IntKind.u64.wrap ((gv bs k (j + 1) : Int) * 128)) (((bs.getD j 0).toNat % 128 : Nat) : Int) = (gv bs k j : Int) := by
  have hj' : j < bs.length := by omega
  have e : bs.getD j 0 = bs[j] := by simp [List.getElem?_eq_getElem hj']
  have hd : (bs.take k).drop j = bs[j] :: (bs.take k).drop (j + 1) := by
    rw [List.drop_eq_getElem_cons (by simp; omega)]
    simp
  rw [e]
  unfold gv
  rw [hd, gval]
  generalize gval ((bs.take k).drop (j + 1)) = y
  have hx : bs[j].toNat % 128 < 128 := Nat.mod_lt _ (by omega)
  generalize bs[j].toNat % 128 = x at hx
  have e1 : IntKind.u64.wrap (((y % 18446744073709551616 : Nat) : Int) * 128) = ((y * 128 % 18446744073709551616 : Nat) : Int) := by rw [IntKind.wrap_u64]; omega
  rw [e1, u64_or_nat _ _ (by omega) (by omega)]
  have e2 : y * 128 % 18446744073709551616 = y % 144115188075855872 * 2 ^ 7 := by omega
  rw [e2, Nat.or_comm, or_shift (k := 7) (by omega)]
  omega
end Go.Proofs.Ytpnhnnhocekchaa
namespace Go.Proofs.Ytpnhnnhocekchaa
set_option linter.unusedVariables false
set_option linter.unusedSimpArgs false
open Go.RowKit

def wN (f : Nat → Bool) : Nat → Nat
  | 0 => 0
  | k + 1 => wN f k + if f k = true then 2 ^ k else 0
theorem wN_lt (f : Nat → Bool) : ∀ k, wN f k < 2 ^ k
  | 0 => by simp [wN]
  | k + 1 => by
    have := wN_lt f k
    rw [wN, Nat.pow_succ]
    split <;> omega
theorem wN_bit (f : Nat → Bool) : ∀ k j, (wN f k).testBit j = (decide (j < k) && f j)
  | 0, j => by simp [wN]
  | k + 1, j => by
    have hl := wN_lt f k
    have ih := wN_bit f k j
    rw [wN]
    by_cases hj : k < j
    · have h2 : (2 : Nat) ^ (k + 1) ≤ 2 ^ j := Nat.pow_le_pow_right (by omega) hj
      rw [Nat.testBit_lt_two_pow (by rw [Nat.pow_succ] at h2; split <;> omega), decide_eq_false (by omega)]
      rfl
    · by_cases hf : f k = true
      · rw [if_pos hf, Nat.add_comm]
        by_cases hjk : j = k
        · subst hjk
          rw [Nat.testBit_two_pow_add_eq, ih, hf]
          simp
        · rw [Nat.testBit_two_pow_add_gt (by omega), ih, decide_eq_true (by omega), decide_eq_true (by omega)]
      · rw [if_neg hf, Nat.add_zero, ih]
        by_cases hjk : j = k
        · subst hjk
          simp [hf]
        · rw [decide_eq_true (by omega), decide_eq_true (by omega)]
theorem wN_ext {n k : Nat} {f : Nat → Bool} (hn : n < 2 ^ k) (h : ∀ j, j < k → n.testBit j = f j) : n = wN f k := by
  apply Nat.eq_of_testBit_eq
  intro j
  rw [wN_bit]
  by_cases hj : j < k
  · rw [h j hj, decide_eq_true hj]; rfl
  · rw [decide_eq_false hj, Nat.testBit_lt_two_pow (Nat.lt_of_lt_of_le hn (Nat.pow_le_pow_right (by omega) (by omega)))]
    rfl
theorem wN_congr {f g : Nat → Bool} : ∀ {k : Nat}, (∀ j, j < k → f j = g j) → wN f k = wN g k
  | 0, _ => rfl
  | k + 1, h => by rw [wN, wN, wN_congr (fun j hj => h j (by omega)), h k (by omega)]

/-- is number j held? -/
def hasN (l : List Bool) (j : Nat) : Bool := l.getD j false
theorem hasN_big {l : List Bool} {j : Nat} (h : l.length ≤ j) : hasN l j = false := by
  unfold hasN
  rw [List.getD_eq_getElem?_getD, List.getElem?_eq_none h]
  rfl
theorem hasN_set {l : List Bool} {i : Nat} {b : Bool} (hi : i < l.length) (j : Nat) : hasN (l.set i b) j = if j = i then b else hasN l j := by
  unfold hasN
  rw [List.getD_eq_getElem?_getD, List.getD_eq_getElem?_getD, List.getElem?_set]
  by_cases h : j = i
  · subst h; simp [hi]
  · rw [if_neg (fun e => h e.symm), if_neg h]
/-- word i of a row; its byte i. -/
def wd (l : List Bool) (i : Nat) : Nat := wN (fun j => hasN l (64 * i + j)) 64
theorem wd_lt (l : List Bool) (i : Nat) : wd l i < 18446744073709551616 := wN_lt _ 64
theorem wd_bit (l : List Bool) (i j : Nat) : (wd l i).testBit j = (decide (j < 64) && hasN l (64 * i + j)) := wN_bit _ 64 j
def wcount (n : Nat) : Nat := (n + 63) / 64
def wds (l : List Bool) : List Value := (List.range (wcount l.length)).map fun i => Value.int .u64 (wd l i : Nat)
theorem wds_len (l : List Bool) : (wds l).length = wcount l.length := by simp [wds]
theorem wds_at (l : List Bool) {i : Nat} (h : i < wcount l.length) : (wds l)[i]? = some (.int .u64 (wd l i : Nat)) := by
  simp [wds, List.getElem?_range h]
theorem wd_set {l : List Bool} {i : Nat} {b : Bool} (hi : i < l.length) {k : Nat} (hk : k ≠ i / 64) : wd (l.set i b) k = wd l k := by
  unfold wd
  apply wN_congr
  intro j hj
  rw [hasN_set hi, if_neg (by omega)]
theorem wd_on {l : List Bool} {i : Nat} (hi : i < l.length) : wd l (i / 64) ||| 2 ^ (i % 64) = wd (l.set i true) (i / 64) := by
  refine wN_ext (Nat.or_lt_two_pow (wd_lt _ _) (Nat.pow_lt_pow_right (by omega) (by omega))) ?_
  intro j hj
  rw [Nat.testBit_or, wd_bit, hasN_set hi, Nat.testBit_two_pow, decide_eq_true hj]
  by_cases h : i % 64 = j
  · rw [decide_eq_true h, if_pos (by omega)]; simp
  · rw [decide_eq_false h, if_neg (by omega)]; simp
theorem testBit_not64 {p j : Nat} (hp : p < 18446744073709551616) (hj : j < 64) : (18446744073709551615 - p).testBit j = !p.testBit j := by
  have h := Nat.testBit_two_pow_sub_succ (n := 64) (x := p) hp j
  rw [show (18446744073709551615 - p) = 2 ^ 64 - (p + 1) by omega, h, decide_eq_true hj]
  rfl
theorem wd_off {l : List Bool} {i : Nat} (hi : i < l.length) : wd l (i / 64) &&& (18446744073709551615 - 2 ^ (i % 64)) = wd (l.set i false) (i / 64) := by
  have hp : 2 ^ (i % 64) < 18446744073709551616 := Nat.pow_lt_pow_right (a := 2) (n := 64) (by omega) (by omega)
  refine wN_ext (Nat.lt_of_le_of_lt Nat.and_le_left (wd_lt _ _)) ?_
  intro j hj
  rw [Nat.testBit_and, wd_bit, hasN_set hi, testBit_not64 hp hj, Nat.testBit_two_pow, decide_eq_true hj]
  by_cases h : i % 64 = j
  · rw [decide_eq_true h, if_pos (by omega)]; simp
  · rw [decide_eq_false h, if_neg (by omega)]; simp
theorem wds_set {l : List Bool} {i : Nat} {b : Bool} (hi : i < l.length) {v : Nat} (hv : v = wd (l.set i b) (i / 64)) : (wds l).set (i / 64) (.int .u64 (v : Nat)) = wds (l.set i b) := by
  subst hv
  apply List.ext_getElem
  · simp [wds]
  · intro k h1 h2
    have hk : k < wcount l.length := by simpa [wds] using h1
    by_cases e : i / 64 = k
    · subst e
      simp [wds]
    · rw [List.getElem_set_ne e]
      simp only [wds, List.getElem_map, List.getElem_range]
      rw [wd_set hi (fun h => e h.symm)]
theorem wd_none (n i : Nat) : wd (List.replicate n false) i = 0 := by
  apply Nat.eq_of_testBit_eq
  intro j
  rw [wd_bit, Nat.zero_testBit]
  have : hasN (List.replicate n false) (64 * i + j) = false := by
    unfold hasN
    rw [List.getD_eq_getElem?_getD, List.getElem?_replicate]
    split <;> rfl
  rw [this]
  simp
theorem wds_none (n : Nat) : wds (List.replicate n false) = List.replicate (wcount n) (.int .u64 0) := by
  apply List.ext_getElem
  · simp [wds]
  · intro k h1 h2
    simp [wds, wd_none]
/-- bits shifted down. -/
theorem wd_shr (l : List Bool) (i : Nat) (j : Nat) : (wd l (i / 64) >>> (i % 64)).testBit j = (decide (i % 64 + j < 64) && hasN l (i + j)) := by
  rw [Nat.testBit_shiftRight, wd_bit]
  by_cases h : i % 64 + j < 64
  · rw [decide_eq_true h, show 64 * (i / 64) + (i % 64 + j) = i + j by omega]
  · rw [decide_eq_false h]; rfl
theorem wd_has (l : List Bool) (i : Nat) : (wd l (i / 64) >>> (i % 64)) % 2 = if hasN l i = true then 1 else 0 := by
  have h := wd_shr l i 0
  rw [Nat.testBit_zero, Nat.add_zero, Nat.add_zero, decide_eq_true (show i % 64 < 64 by omega), Bool.true_and] at h
  by_cases hb : hasN l i = true
  · rw [hb] at h
    rw [if_pos hb]
    exact of_decide_eq_true h
  · rw [if_neg hb]
    have h2 : hasN l i = false := by simpa using hb
    rw [h2] at h
    have := of_decide_eq_false h
    omega
end Go.Proofs.Ytpnhnnhocekchaa
namespace Go.Proofs.Ytpnhnnhocekchaa
set_option linter.unusedVariables false
set_option linter.unusedSimpArgs false
open Go.RowKit

theorem p2 {a b : Nat} (h : a ≤ b) : 2 ^ a ≤ 2 ^ b := Nat.pow_le_pow_right (by omega) h
/-! The width. -/
theorem bla_lt : ∀ (f x : Nat), x < 2 ^ f → x < 2 ^ Lib.bitLenAux f x
  | 0, x, h => by simpa [Lib.bitLenAux] using h
  | f + 1, x, h => by
    rw [Lib.bitLenAux]
    by_cases h0 : x = 0
    · rw [if_pos h0, h0]; decide
    · rw [if_neg h0, Nat.add_comm, Nat.pow_succ]
      have := bla_lt f (x / 2) (by rw [Nat.pow_succ] at h; omega)
      omega
theorem blen_le {x : Nat} (w : Nat) (hx : x < 18446744073709551616) : Lib.bitLen x ≤ w ↔ x < 2 ^ w := by
  constructor
  · intro h
    exact Nat.lt_of_lt_of_le (bla_lt 64 x hx) (Nat.pow_le_pow_right (by omega) h)
  · intro h
    exact Lib.bitLenAux_le 64 x w h
theorem blen_64 {x : Nat} (hx : x < 18446744073709551616) : Lib.bitLen x ≤ 64 := (blen_le 64 hx).2 hx
/-- numbers of 64 bits. -/
def In64 (l : List Nat) : Prop := ∀ u ∈ l, u < 18446744073709551616
def wid (l : List Nat) : Nat := l.foldl (fun w u => max w (Lib.bitLen u)) 0
theorem widF (l : List Nat) (a w : Nat) : l.foldl (fun w u => max w (Lib.bitLen u)) a ≤ w ↔ a ≤ w ∧ ∀ u ∈ l, Lib.bitLen u ≤ w := by
  induction l generalizing a with
  | nil => simp
  | cons x r ih =>
    rw [List.foldl_cons, ih]
    simp only [List.mem_cons, forall_eq_or_imp]
    constructor
    · exact fun ⟨h1, h2⟩ => ⟨by omega, by omega, h2⟩
    · exact fun ⟨h1, h2, h3⟩ => ⟨by omega, h3⟩
theorem wid_le {l : List Nat} (h : In64 l) (w : Nat) : wid l ≤ w ↔ ∀ u ∈ l, u < 2 ^ w := by
  unfold wid
  rw [widF]
  constructor
  · exact fun ⟨_, h1⟩ u hu => (blen_le w (h u hu)).1 (h1 u hu)
  · exact fun h1 => ⟨Nat.zero_le _, fun u hu => (blen_le w (h u hu)).2 (h1 u hu)⟩
theorem wid_64 {l : List Nat} (h : In64 l) : wid l ≤ 64 := (wid_le h 64).2 h
theorem wid_lt {l : List Nat} (h : In64 l) : ∀ u ∈ l, u < 2 ^ wid l := (wid_le h _).1 (Nat.le_refl _)
theorem wid_snoc (l : List Nat) (u : Nat) : wid (l ++ [u]) = max (wid l) (Lib.bitLen u) := by simp [wid, List.foldl_append]
def orL (l : List Nat) : Nat := l.foldl (· ||| ·) 0
theorem orL_snoc (l : List Nat) (u : Nat) : orL (l ++ [u]) = orL l ||| u := by simp [orL, List.foldl_append]
theorem orF (l : List Nat) (a w : Nat) : l.foldl (· ||| ·) a < 2 ^ w ↔ a < 2 ^ w ∧ ∀ u ∈ l, u < 2 ^ w := by
  induction l generalizing a with
  | nil => simp
  | cons x r ih =>
    rw [List.foldl_cons, ih]
    simp only [List.mem_cons, forall_eq_or_imp]
    constructor
    · exact fun ⟨h1, h2⟩ => ⟨Nat.lt_of_le_of_lt Nat.left_le_or h1, Nat.lt_of_le_of_lt Nat.right_le_or h1, h2⟩
    · exact fun ⟨h1, h2, h3⟩ => ⟨Nat.or_lt_two_pow h1 h2, h3⟩
theorem orL_lt (l : List Nat) (w : Nat) : orL l < 2 ^ w ↔ ∀ u ∈ l, u < 2 ^ w := by
  unfold orL
  rw [orF]
  exact ⟨fun h => h.2, fun h => ⟨Nat.two_pow_pos w, h⟩⟩
theorem orL_64 {l : List Nat} (h : In64 l) : orL l < 18446744073709551616 := (orL_lt l 64).2 h
theorem orL_wid {l : List Nat} (h : In64 l) : Lib.bitLen (orL l) = wid l := by
  have h1 : ∀ w, Lib.bitLen (orL l) ≤ w ↔ wid l ≤ w := fun w => by rw [blen_le w (orL_64 h), orL_lt, wid_le h]
  exact Nat.le_antisymm ((h1 _).2 (Nat.le_refl _)) ((h1 _).1 (Nat.le_refl _))

/-! Packed. -/
/-- byte j of those bits that stand below t. -/
def pby (f : Nat → Bool) (t j : Nat) : Nat := wN (fun q => decide (8 * j + q < t) && f (8 * j + q)) 8
theorem pby_lt (f : Nat → Bool) (t j : Nat) : pby f t j < 256 := wN_lt _ 8
theorem pby_bit (f : Nat → Bool) (t j q : Nat) : (pby f t j).testBit q = (decide (q < 8) && (decide (8 * j + q < t) && f (8 * j + q))) := wN_bit _ 8 q
def pbys (f : Nat → Bool) (t m : Nat) : List UInt8 := (List.range m).map fun j => UInt8.ofNat (pby f t j)
theorem pbys_len (f : Nat → Bool) (t m : Nat) : (pbys f t m).length = m := by simp [pbys]
theorem pbys_at {f : Nat → Bool} {t m j : Nat} (h : j < m) : (pbys f t m).getD j 0 = UInt8.ofNat (pby f t j) := by simp [pbys, h]
theorem pbys_nat {f : Nat → Bool} {t m j : Nat} (h : j < m) : ((pbys f t m).getD j 0).toNat = pby f t j := by rw [pbys_at h, ofNat_toNat (pby_lt _ _ _)]
theorem pbys_cell {f : Nat → Bool} {t m j : Nat} (h : j < m) : (by8 (pbys f t m))[j]? = some (.int .u8 (pby f t j : Nat)) := by
  rw [by8_get _ _ (by rw [pbys_len]; exact h), pbys_nat h]
theorem pby_same {f : Nat → Bool} {t t' j : Nat} (h1 : t ≤ t') (h2 : t' ≤ 8 * (t / 8) + 8) (hj : j ≠ t / 8) : pby f t j = pby f t' j := by
  unfold pby
  apply wN_congr
  intro q hq
  congr 1
  by_cases h : 8 * j + q < t
  · rw [decide_eq_true h, decide_eq_true (by omega)]
  · rw [decide_eq_false h, decide_eq_false (by omega)]
theorem pbys_set {f : Nat → Bool} {t t' m : Nat} (h1 : t ≤ t') (h2 : t' ≤ 8 * (t / 8) + 8) : (by8 (pbys f t m)).set (t / 8) (.int .u8 (pby f t' (t / 8) : Nat)) = by8 (pbys f t' m) := by
  apply List.ext_getElem
  · simp [by8, pbys]
  · intro k k1 k2
    have hk : k < m := by simpa [by8, pbys] using k1
    by_cases e : t / 8 = k
    · subst e
      rw [List.getElem_set_self]
      have := pbys_cell (f := f) (t := t') hk
      rw [List.getElem?_eq_getElem (by simpa [by8, pbys] using hk)] at this
      exact (Option.some.inj this).symm
    · rw [List.getElem_set_ne e]
      have a1 := pbys_cell (f := f) (t := t') hk
      have a2 := pbys_cell (f := f) (t := t) hk
      rw [List.getElem?_eq_getElem (by simpa [by8, pbys] using hk)] at a1 a2
      rw [Option.some.inj a1, Option.some.inj a2, pby_same h1 h2 (fun h => e h.symm)]
theorem pby_step {f : Nat → Bool} {t d x : Nat} (hd : t % 8 + d ≤ 8) (hx : x < 256)
    (hb : ∀ q, q < 8 → x.testBit q = (decide (t % 8 ≤ q) && decide (q < t % 8 + d) && f (8 * (t / 8) + q))) : pby f t (t / 8) ||| x = pby f (t + d) (t / 8) := by
  refine wN_ext (k := 8) (Nat.or_lt_two_pow (pby_lt _ _ _) hx) ?_
  intro q hq
  rw [Nat.testBit_or, pby_bit, hb q hq, decide_eq_true hq, Bool.true_and]
  by_cases h1 : 8 * (t / 8) + q < t
  · rw [decide_eq_true h1, decide_eq_false (show ¬ t % 8 ≤ q by omega), decide_eq_true (show 8 * (t / 8) + q < t + d by omega)]; simp
  · rw [decide_eq_false h1, decide_eq_true (show t % 8 ≤ q by omega)]
    by_cases h2 : q < t % 8 + d
    · rw [decide_eq_true h2, decide_eq_true (show 8 * (t / 8) + q < t + d by omega)]; simp
    · rw [decide_eq_false h2, decide_eq_false (show ¬ 8 * (t / 8) + q < t + d by omega)]; simp
theorem pby_zero {f : Nat → Bool} {t j : Nat} (h : t ≤ 8 * j) : pby f t j = 0 := by
  apply Nat.eq_of_testBit_eq
  intro q
  rw [pby_bit, decide_eq_false (show ¬ 8 * j + q < t by omega)]
  simp
theorem pbys_none (f : Nat → Bool) (m : Nat) : by8 (pbys f 0 m) = List.replicate m (.int .u8 0) := by
  apply List.ext_getElem
  · simp [by8, pbys]
  · intro k k1 k2
    have hk : k < m := by simpa [by8, pbys] using k1
    have a1 := pbys_cell (f := f) (t := 0) hk
    rw [List.getElem?_eq_getElem (by simpa [by8, pbys] using hk), pby_zero (Nat.zero_le _)] at a1
    rw [Option.some.inj a1]
    simp
theorem pbys_more {f : Nat → Bool} {t m : Nat} (h : t ≤ 8 * m) : pbys f t (m + 1) = pbys f t m ++ [0] := by
  unfold pbys
  rw [List.range_succ, List.map_append, List.map_cons, List.map_nil, pby_zero h]
  rfl

/-- bit p of numbers one behind the other; of bytes. -/
def pbit (w : Nat) (l : List Nat) (p : Nat) : Bool := (l.getD (p / w) 0).testBit (p % w)
def bbit (b : List UInt8) (p : Nat) : Bool := ((b.getD (p / 8) 0).toNat).testBit (p % 8)
def psz (w n : Nat) : Nat := (w * n + 7) / 8
def packed (w : Nat) (l : List Nat) : List UInt8 := pbys (pbit w l) (w * l.length) (psz w l.length)
theorem packed_len (w : Nat) (l : List Nat) : (packed w l).length = psz w l.length := pbys_len _ _ _
theorem packed_0 (l : List Nat) : packed 0 l = [] := by
  have : psz 0 l.length = 0 := by simp [psz]
  unfold packed
  rw [this]
  rfl
theorem at_div {w i k : Nat} (hk : k < w) : (w * i + k) / w = i ∧ (w * i + k) % w = k := by
  have hw : 0 < w := by omega
  rw [Nat.mul_add_div hw, Nat.div_eq_of_lt hk, Nat.mul_add_mod, Nat.mod_eq_of_lt hk]
  exact ⟨rfl, rfl⟩
theorem pbit_at {w i k : Nat} (l : List Nat) (hk : k < w) : pbit w l (w * i + k) = (l.getD i 0).testBit k := by
  unfold pbit
  rw [(at_div hk).1, (at_div hk).2]
/-- a part of a number, shifted to its place in a byte. -/
def part (u k d s : Nat) : Nat := ((u >>> k) &&& (2 ^ d - 1)) <<< s
theorem part_bit (u k d s q : Nat) : (part u k d s).testBit q = (decide (s ≤ q) && (u.testBit (k + (q - s)) && decide (q - s < d))) := by
  unfold part
  rw [Nat.testBit_shiftLeft, Nat.testBit_and, Nat.testBit_shiftRight, Nat.testBit_two_pow_sub_one]
theorem part_lt {u k d s n : Nat} (h : s + d ≤ n) : part u k d s < 2 ^ n := by
  apply Nat.lt_pow_two_of_testBit
  intro q hq
  rw [part_bit]
  rw [decide_eq_false (show ¬ q - s < d by omega)]
  simp
theorem pack_step {w i k d : Nat} (l : List Nat) (hk : k + d ≤ w) (hd : (w * i + k) % 8 + d ≤ 8) :
    pby (pbit w l) (w * i + k) ((w * i + k) / 8) ||| part (l.getD i 0) k d ((w * i + k) % 8) = pby (pbit w l) (w * i + k + d) ((w * i + k) / 8) := by
  generalize ht : w * i + k = t at hd ⊢
  refine pby_step hd (part_lt (n := 8) hd) ?_
  intro q hq
  rw [part_bit]
  by_cases h1 : t % 8 ≤ q
  · by_cases h2 : q < t % 8 + d
    · have e : 8 * (t / 8) + q = w * i + (k + (q - t % 8)) := by omega
      rw [e, pbit_at l (by omega), decide_eq_true h1, decide_eq_true h2, decide_eq_true (show q - t % 8 < d by omega)]
      simp
    · rw [decide_eq_true h1, decide_eq_false h2, decide_eq_false (show ¬ q - t % 8 < d by omega)]; simp
  · rw [decide_eq_false h1]; rfl
theorem pbys_bit {f : Nat → Bool} {t m p : Nat} (h : p < 8 * m) : bbit (pbys f t m) p = (decide (p < t) && f p) := by
  unfold bbit
  rw [pbys_nat (show p / 8 < m by omega), pby_bit, decide_eq_true (show p % 8 < 8 by omega), show 8 * (p / 8) + p % 8 = p by omega]
  rfl
theorem packed_bit {w : Nat} {l : List Nat} {p : Nat} (h : p < w * l.length) : bbit (packed w l) p = pbit w l p := by
  have h1 : p < 8 * psz w l.length := by unfold psz; omega
  unfold packed
  rw [pbys_bit h1, decide_eq_true h]
  rfl

/-! Unpacked. -/
def unum (w : Nat) (b : List UInt8) (t j : Nat) : Nat := wN (fun q => decide (w * j + q < t) && bbit b (w * j + q)) w
theorem unum_lt (w : Nat) (b : List UInt8) (t j : Nat) : unum w b t j < 2 ^ w := wN_lt _ w
theorem unum_lt64 {w : Nat} (h : w ≤ 64) (b : List UInt8) (t j : Nat) : unum w b t j < 18446744073709551616 :=
  Nat.lt_of_lt_of_le (unum_lt w b t j) (p2 (b := 64) h)
theorem unum_bit (w : Nat) (b : List UInt8) (t j q : Nat) : (unum w b t j).testBit q = (decide (q < w) && (decide (w * j + q < t) && bbit b (w * j + q))) := wN_bit _ w q
def unums (w : Nat) (b : List UInt8) (t n : Nat) : List Nat := (List.range n).map (unum w b t)
theorem unums_len (w : Nat) (b : List UInt8) (t n : Nat) : (unums w b t n).length = n := by simp [unums]
theorem unums_at {w : Nat} {b : List UInt8} {t n j : Nat} (h : j < n) : (unums w b t n)[j]? = some (unum w b t j) := by simp [unums, h]
def unpacked (w n : Nat) (b : List UInt8) : List Nat := unums w b (w * n) n
theorem unpacked_len (w n : Nat) (b : List UInt8) : (unpacked w n b).length = n := unums_len _ _ _ _
theorem unpacked_lt {w n : Nat} {b : List UInt8} : ∀ u ∈ unpacked w n b, u < 2 ^ w := by
  intro u hu
  obtain ⟨j, _, rfl⟩ := List.mem_map.1 hu
  exact unum_lt _ _ _ _
theorem unpacked_64 {w n : Nat} {b : List UInt8} (h : w ≤ 64) : In64 (unpacked w n b) := fun u hu => Nat.lt_of_lt_of_le (unpacked_lt u hu) (p2 (b := 64) h)
theorem unpack_step {w i k d : Nat} (b : List UInt8) (hk : k + d ≤ w) (hd : (w * i + k) % 8 + d ≤ 8) :
    unum w b (w * i + k) i ||| part ((b.getD ((w * i + k) / 8) 0).toNat) ((w * i + k) % 8) d k = unum w b (w * i + k + d) i := by
  generalize ht : w * i + k = t at hd ⊢
  refine wN_ext (k := w) (Nat.or_lt_two_pow (unum_lt _ _ _ _) (part_lt hk)) ?_
  intro q hq
  rw [Nat.testBit_or, unum_bit, part_bit, decide_eq_true hq, Bool.true_and]
  by_cases h1 : k ≤ q
  · rw [decide_eq_false (show ¬ w * i + q < t by omega), decide_eq_true h1]
    by_cases h2 : q - k < d
    · have e : bbit b (w * i + q) = ((b.getD (t / 8) 0).toNat).testBit (t % 8 + (q - k)) := by
        unfold bbit
        rw [show (w * i + q) / 8 = t / 8 by omega, show (w * i + q) % 8 = t % 8 + (q - k) by omega]
      rw [decide_eq_true h2, decide_eq_true (show w * i + q < t + d by omega), e]
      simp
    · rw [decide_eq_false h2, decide_eq_false (show ¬ w * i + q < t + d by omega)]; simp
  · rw [decide_eq_true (show w * i + q < t by omega), decide_eq_false h1, decide_eq_true (show w * i + q < t + d by omega)]; simp
theorem unum_same {w i k d j : Nat} {b : List UInt8} (hk : k + d ≤ w) (hj : j ≠ i) : unum w b (w * i + k) j = unum w b (w * i + k + d) j := by
  unfold unum
  apply wN_congr
  intro q hq
  congr 1
  rcases Nat.lt_or_ge j i with h | h
  · have : w * (j + 1) ≤ w * i := Nat.mul_le_mul_left _ h
    rw [Nat.mul_add] at this
    rw [decide_eq_true (by omega), decide_eq_true (by omega)]
  · have : w * (i + 1) ≤ w * j := Nat.mul_le_mul_left _ (by omega)
    rw [Nat.mul_add] at this
    rw [decide_eq_false (by omega), decide_eq_false (by omega)]
theorem unums_set {w i k d n : Nat} {b : List UInt8} (hk : k + d ≤ w) (hi : i < n) : (unums w b (w * i + k) n).set i (unum w b (w * i + k + d) i) = unums w b (w * i + k + d) n := by
  apply List.ext_getElem
  · simp [unums]
  · intro j j1 j2
    have hj : j < n := by simpa [unums] using j1
    by_cases e : i = j
    · subst e
      simp [unums]
    · rw [List.getElem_set_ne e]
      simp only [unums, List.getElem_map, List.getElem_range]
      exact unum_same hk (fun h => e h.symm)
theorem unum_zero {w t j : Nat} {b : List UInt8} (h : t ≤ w * j) : unum w b t j = 0 := by
  apply Nat.eq_of_testBit_eq
  intro q
  rw [unum_bit, decide_eq_false (show ¬ w * j + q < t by omega)]
  simp
theorem unums_none (w : Nat) (b : List UInt8) (n : Nat) : unums w b 0 n = List.replicate n 0 := by
  apply List.ext_getElem
  · simp [unums]
  · intro j j1 j2
    simp [unums, unum_zero]

/-- what is left of the last byte. -/
def leftN (b : List UInt8) (t : Nat) : Nat := if t % 8 = 0 then 0 else (b.getD (t / 8) 0).toNat >>> (t % 8)
theorem leftN_iff {b : List UInt8} {t : Nat} (hl : b.length = (t + 7) / 8) : leftN b t = 0 ↔ ∀ p, t ≤ p → p < 8 * b.length → bbit b p = false := by
  unfold leftN
  by_cases h0 : t % 8 = 0
  · rw [if_pos h0]
    exact ⟨fun _ p h1 h2 => by omega, fun _ => rfl⟩
  · rw [if_neg h0]
    constructor
    · intro h p h1 h2
      have e : p / 8 = t / 8 := by omega
      unfold bbit
      rw [e]
      have := congrArg (fun n => n.testBit (p % 8 - t % 8)) h
      simp only [Nat.testBit_shiftRight, Nat.zero_testBit] at this
      rwa [show t % 8 + (p % 8 - t % 8) = p % 8 by omega] at this
    · intro h
      apply Nat.eq_of_testBit_eq
      intro q
      rw [Nat.testBit_shiftRight, Nat.zero_testBit]
      by_cases hq : t % 8 + q < 8
      · have := h (t + q) (by omega) (by omega)
        unfold bbit at this
        rwa [show (t + q) / 8 = t / 8 by omega, show (t + q) % 8 = t % 8 + q by omega] at this
      · exact Nat.testBit_lt_two_pow (Nat.lt_of_lt_of_le (b.getD (t / 8) 0).toNat_lt (p2 (a := 8) (b := t % 8 + q) (by omega)))

/-! To and fro. -/
theorem unpack_pack {w : Nat} {l : List Nat} (h : ∀ u ∈ l, u < 2 ^ w) : unpacked w l.length (packed w l) = l := by
  apply List.ext_getElem
  · rw [unpacked_len]
  · intro i i1 i2
    simp only [unpacked, unums, List.getElem_map, List.getElem_range]
    refine (wN_ext (h _ (List.getElem_mem i2)) ?_).symm
    intro q hq
    have hlt : w * i + q < w * l.length := by
      have : w * (i + 1) ≤ w * l.length := Nat.mul_le_mul_left _ i2
      rw [Nat.mul_add] at this
      omega
    rw [decide_eq_true hlt, packed_bit hlt, pbit_at l hq]
    simp [List.getElem?_eq_getElem i2]
theorem packed_left (w : Nat) (l : List Nat) : leftN (packed w l) (w * l.length) = 0 := by
  rw [leftN_iff (by rw [packed_len]; rfl)]
  intro p h1 h2
  rw [packed_len] at h2
  unfold packed
  rw [pbys_bit h2, decide_eq_false (by omega)]
  rfl
theorem bytes_ext {a b : List UInt8} (hl : a.length = b.length) (h : ∀ p, p < 8 * a.length → bbit a p = bbit b p) : a = b := by
  apply List.ext_getElem hl
  intro i i1 i2
  apply UInt8.toNat_inj.1
  apply Nat.eq_of_testBit_eq
  intro q
  by_cases hq : q < 8
  · have := h (8 * i + q) (by omega)
    unfold bbit at this
    rw [show (8 * i + q) / 8 = i by omega, show (8 * i + q) % 8 = q by omega] at this
    simpa [List.getElem?_eq_getElem i1, List.getElem?_eq_getElem i2] using this
  · have hb : ∀ x : UInt8, x.toNat.testBit q = false := fun x => Nat.testBit_lt_two_pow (Nat.lt_of_lt_of_le x.toNat_lt (p2 (a := 8) (b := q) (by omega)))
    rw [hb, hb]
theorem pack_unpack {w n : Nat} {b : List UInt8} (hl : b.length = psz w n) (h : leftN b (w * n) = 0) : packed w (unpacked w n b) = b := by
  have hl2 : (packed w (unpacked w n b)).length = b.length := by rw [packed_len, unpacked_len, hl]
  refine bytes_ext hl2 ?_
  intro p hp
  rw [hl2] at hp
  by_cases hlt : p < w * n
  · rw [packed_bit (by rw [unpacked_len]; exact hlt)]
    have hw : 0 < w := by
      rcases Nat.eq_zero_or_pos w with e | e
      · rw [e, Nat.zero_mul] at hlt; omega
      · exact e
    have hm : p % w < w := Nat.mod_lt _ hw
    have hd : p / w < n := Nat.div_lt_of_lt_mul hlt
    have e : w * (p / w) + p % w = p := Nat.div_add_mod p w
    unfold pbit
    have e2 : (unpacked w n b).getD (p / w) 0 = unum w b (w * n) (p / w) := by
      unfold unpacked
      rw [List.getD_eq_getElem?_getD, unums_at hd]
      rfl
    rw [e2, unum_bit, decide_eq_true hm, e, decide_eq_true hlt]
    rfl
  · rw [(leftN_iff (by rw [hl]; rfl)).1 h p (by omega) hp]
    unfold packed
    rw [pbys_bit (by rw [unpacked_len, ← hl]; exact hp), unpacked_len, decide_eq_false hlt]
    rfl

/-- Bits, Unbits, of whatever numbers. -/
def bitsZ (l : List Nat) (w : Int) : List UInt8 := if 0 ≤ w ∧ w ≤ 64 then packed w.toNat l else []
def unbitsZ (b : List UInt8) (w n : Int) : List Nat × Int :=
  if w < 0 ∨ 64 < w ∨ n < 0 ∨ 1048576 < n then ([], 1)
  else if b.length ≠ psz w.toNat n.toNat ∨ leftN b (w.toNat * n.toNat) ≠ 0 then ([], 20) else (unpacked w.toNat n.toNat b, 0)
end Go.Proofs.Ytpnhnnhocekchaa
namespace Go.Proofs.Ytpnhnnhocekchaa
set_option linter.unusedVariables false
set_option linter.unusedSimpArgs false
open Go.RowKit

def zN (l : List Nat) : List Int := l.map fun (n : Nat) => (n : Int)
def nz (l : List Nat) : List Value := iz .u64 (zN l)
theorem zN_len (l : List Nat) : (zN l).length = l.length := by simp [zN]
theorem nz_len (l : List Nat) : (nz l).length = l.length := by simp [nz, iz, zN]
theorem nz_append (l m : List Nat) : nz (l ++ m) = nz l ++ nz m := by simp [nz, iz, zN]
theorem nz_take (l : List Nat) (n : Nat) : nz (l.take n) = (nz l).take n := by simp [nz, iz, zN, List.map_take]
theorem nz_one (l : List Nat) : ∀ u ∈ nz l, u.oneCell' = true := iz_one _ _
theorem nz_at (l : List Nat) {j : Nat} (h : j < l.length) : (nz l)[j]? = some (.int .u64 (l.getD j 0 : Nat)) := by simp [nz, iz, zN, h]
theorem nz_set (l : List Nat) (i : Nat) (v : Nat) : (nz l).set i (.int .u64 (v : Nat)) = nz (l.set i v) := by simp [nz, iz, zN, List.map_set]
theorem nz_rep (n : Nat) : nz (List.replicate n 0) = List.replicate n (.int .u64 0) := by simp [nz, iz, zN]
theorem zN_inj {l m : List Nat} (h : zN l = zN m) : l = m := by
  unfold zN at h
  exact List.map_inj_right (fun x y hxy => by omega) |>.1 h
theorem zN_eq (l m : List Nat) : (zN l = zN m) = (l = m) := propext ⟨zN_inj, fun h => by rw [h]⟩
theorem zN_of {l : List Int} (h : ∀ z ∈ l, 0 ≤ z) : zN (l.map Int.toNat) = l := by
  unfold zN
  rw [List.map_map]
  conv => rhs; rw [← List.map_id l]
  apply List.map_congr_left
  intro x hx
  have := h x hx
  simp
  omega
theorem Rd.natAt {w : World} {B : Nat} {A : Option Addr} {l : List Nat} (h : Rd w B A (nz l)) {j : Nat} (hj : j < l.length) : ∃ ad, A = some ad ∧ ad.block < B ∧ w.cell? (ad.add j) = some (.int .u64 (l.getD j 0 : Nat)) :=
  h j _ (nz_at l hj)
theorem In64.at {l : List Nat} (h : In64 l) (j : Nat) : l.getD j 0 < 18446744073709551616 := by
  by_cases hj : j < l.length
  · have : l.getD j 0 = l[j] := by simp [List.getElem?_eq_getElem hj]
    rw [this]
    exact h _ (List.getElem_mem hj)
  · have : l.getD j 0 = 0 := by simp [List.getElem?_eq_none (Nat.le_of_not_lt hj)]
    omega
theorem take_snocN {l : List Nat} {k : Nat} (h : k < l.length) : l.take (k + 1) = l.take k ++ [l.getD k 0] := by
  rw [List.take_succ_eq_append_getElem h]
  simp [List.getElem?_eq_getElem h]
theorem orL_take {l : List Nat} (h : In64 l) (k : Nat) : orL (l.take k) < 18446744073709551616 := orL_64 fun u hu => h u (List.mem_of_mem_take hu)
theorem wid_take {l : List Nat} (h : In64 l) (k : Nat) : wid (l.take k) ≤ 64 := wid_64 fun u hu => h u (List.mem_of_mem_take hu)
end Go.Proofs.Ytpnhnnhocekchaa
namespace Go.Proofs.Ytpnhnnhocekchaa
set_option linter.unusedVariables false
set_option linter.unusedSimpArgs false
open Go.RowKit

set_option maxRecDepth 100000 in
set_option maxHeartbeats 400000 in
theorem clone_any (A : Option Addr) (n c B : Nat) (bs : List UInt8) (w : World) (hl : bs.length = n) (hn : n ≤ c) (hc : c ≤ maxLen) (hb : n ≤ 140737488355328) (hB : B ≤ w.heap.size) (hr : Rd w B A (by8 bs)) :
    Calls Try.prog 92 #[.slice A n c] w (GivesB w bs) := by
  have HR := hide hr; clear hr
  have HL := hide hl; clear hl
  obtain ⟨i0, hi, hz, hsz, hby⟩ := info_parts Try.info5
  cases A with
  | none =>
    have he := fun W => Lib.run_eql_slice_nil (P := Try.prog) W 23 5 none n c 0 0 Try.underlying23
    go_enter Try.func92, Try.ntmps92
    go_wp2
    go_ret
    have h0 := HR.out.len0
    subst h0
    exact ⟨_, rfl, Own.nil _ _ _ _, Fr.refl _ _⟩
  | some ad =>
    have he := fun W => Lib.run_eql_slice_nil (P := Try.prog) W 23 5 (some ad) n c 0 0 Try.underlying23
    have HS := hide (Src.ofRd (P := Try.prog) (size := 1) (w.alloc (.cells #[] 5)) Try.underlying23 (some ad) n c (by8 bs) (by rw [by8_length, HL.out]; omega) (by omega) (HR.out.fr0 ((Fr.refl _ _).alloc _)) (by8_one _))
    go_enter Try.func92, Try.ntmps92
    have b1 : (0 + n) * 1 ≤ 140737488355328 := by omega
    have b2 : 0 + n ≤ maxLen := by unfold maxLen at *; omega
    have b3 : w.heap.size ≤ (w.alloc (.cells #[] 5)).heap.size := by simp
    go_wp2_with (at_builtin; (refine wpList_append_gen _ rfl (.tmp 5) (.tmp 6) 23 23 rfl w.heap.size 5 i0 (.int .u8 0) 1 1 Try.underlying23 hi hz hsz hby rfl _ 0 [] rfl (own_empty w 5) _ n (by8 bs) rfl HS.out b1 b2 b3 ?_); intro v' w' hown hfr hat)
    go_ret
    refine ⟨v', rfl, by simpa [HL.out] using hown, ?_⟩
    exact ((Fr.refl No w).alloc _).own hfr (fun g h => .inl (Nat.le_of_eq (Option.some.inj h)))

set_option maxRecDepth 100000 in
set_option maxHeartbeats 400000 in
theorem clip_any (A : Option Addr) (n c : Nat) (w : World) (hn : n ≤ c) (hc : c ≤ maxLen) :
    Calls Try.prog 59 #[.slice A n c] w (Ret (.slice A n n) w) := by
  unfold maxLen at hc
  go_enter Try.func59, Try.ntmps59
  go_wp2
  go_ret
  exact ⟨by simp, rfl⟩

end Go.Proofs.Ytpnhnnhocekchaa
namespace Go.Proofs.Ytpnhnnhocekchaa
set_option linter.unusedVariables false
set_option linter.unusedSimpArgs false
open Go.RowKit

/-- a reader: bytes, the place in them, the error. -/
def RD (w : World) (g : Nat) (bs : List UInt8) (at_ : Nat) (e : Int) : Prop :=
  ∃ A c, w.heap[g]? = some (.cells #[.slice A bs.length c, .int .i64 at_, .int .i64 e] 131 (0, 0)) ∧ bs.length ≤ c ∧ c ≤ maxLen ∧ at_ ≤ bs.length ∧ bs.length ≤ 140737488355328 ∧
    Own w 0 5 1 (.slice A bs.length c) bs.length (by8 bs)

theorem RD.parts {w : World} {g : Nat} {bs : List UInt8} {at_ : Nat} {e : Int} (h : RD w g bs at_ e) :
    ∃ A c, (w.cell? ⟨g, 0, none⟩ = some (.slice A bs.length c) ∧ w.cell? ⟨g, 1, none⟩ = some (.int .i64 at_) ∧ w.cell? ⟨g, 2, none⟩ = some (.int .i64 e)) ∧ (∀ i, w.frozen? ⟨g, i, none⟩ = false) ∧
      bs.length ≤ c ∧ c ≤ maxLen ∧ at_ ≤ bs.length ∧ bs.length ≤ 140737488355328 ∧ Rd w w.heap.size A (by8 bs) := by
  obtain ⟨A, c, hh, h1, h2, h3, h4, ho⟩ := h
  exact ⟨A, c, ⟨cell_of_row w g 0 _ _ (0, 0) hh, cell_of_row w g 1 _ _ (0, 0) hh, cell_of_row w g 2 _ _ (0, 0) hh⟩, fun i => by simp [World.frozen?, hh], h1, h2, h3, h4, ho.rd⟩

theorem RD.set1 {w : World} {g : Nat} {bs : List UInt8} {at_ : Nat} {e : Int} (h : RD w g bs at_ e) (k : Nat) (hk : k ≤ bs.length) : RD (w.setCell ⟨g, 1, none⟩ (.int .i64 k)) g bs k e := by
  obtain ⟨A, c, hh, h1, h2, h3, h4, ho⟩ := h
  refine ⟨A, c, by simp [World.setCell, Array.getElem?_modify, hh], h1, h2, hk, h4, ho.fr ((Fr.refl (Is g) w).setCell (p := ⟨g, 1, none⟩) (fun _ => rfl) _) ?_⟩
  rintro g' hg' rfl
  exact ho.ne_blk hg' hh (by decide)

theorem RD.set2 {w : World} {g : Nat} {bs : List UInt8} {at_ : Nat} {e : Int} (h : RD w g bs at_ e) (k : Int) : RD (w.setCell ⟨g, 2, none⟩ (.int .i64 k)) g bs at_ k := by
  obtain ⟨A, c, hh, h1, h2, h3, h4, ho⟩ := h
  refine ⟨A, c, by simp [World.setCell, Array.getElem?_modify, hh], h1, h2, h3, h4, ho.fr ((Fr.refl (Is g) w).setCell (p := ⟨g, 2, none⟩) (fun _ => rfl) _) ?_⟩
  rintro g' hg' rfl
  exact ho.ne_blk hg' hh (by decide)

theorem RD.drewN {w : World} {g : Nat} {bs : List UInt8} {at_ : Nat} {e : Int} (h : RD w g bs at_ e) (n : Nat) : RD (w.drewN n) g bs at_ e := h

theorem RD.fr0 {w w' : World} {g : Nat} {bs : List UInt8} {a : Nat} {e : Int} (h : RD w g bs a e) (f : Fr No w w') : RD w' g bs a e := by
  obtain ⟨A, c, hh, h1, h2, h3, h4, ho⟩ := h
  exact ⟨A, c, f.blk hh (fun h => h), h1, h2, h3, h4, ho.fr0 f⟩

theorem RD.lt {w : World} {g : Nat} {bs : List UInt8} {a : Nat} {e : Int} (h : RD w g bs a e) : g < w.heap.size := by
  obtain ⟨A, c, hh, _⟩ := h
  exact (Array.getElem?_eq_some_iff.1 hh).1

theorem RD.other {w w' : World} {g g2 : Nat} {bs bs2 : List UInt8} {a a2 : Nat} {e e2 : Int} (h : RD w g bs a e) (h2 : RD w g2 bs2 a2 e2) (f : Fr (Is g2) w w') (hne : g ≠ g2) : RD w' g bs a e := by
  obtain ⟨A, c, hh, h1, h2', h3, h4, ho⟩ := h
  obtain ⟨A2, c2, hh2, _⟩ := h2
  refine ⟨A, c, f.blk hh hne, h1, h2', h3, h4, ho.fr f ?_⟩
  rintro g' hg' rfl
  exact ho.ne_blk hg' hh2 (by decide)

theorem dec_le : ∀ (bs : List UInt8) (i acc u k : Nat), dec i acc bs = some (u, k) → i < k ∧ k ≤ i + bs.length
  | [], i, acc, u, k, h => by simp [dec] at h
  | b :: r, i, acc, u, k, h => by
    rw [dec] at h
    split at h
    · cases h
    · split at h
      · cases h
      · split at h
        · split at h
          · cases h
          · injection h with h; injection h with _ h; simp; omega
        · have := dec_le r _ _ u k h
          simp; omega

/-- what a reader's call leaves: value, place, error. -/
def RDRet (v : Value) (w : World) (g : Nat) (bs : List UInt8) (at_ : Nat) (e : Int) (en : Ending) (w' : World) : Prop := en = .returned v ∧ RD w' g bs at_ e ∧ Fr (Is g) w w'

/-- a new reader. -/
def GivesRD (w : World) (bs : List UInt8) (en : Ending) (w' : World) : Prop := ∃ g, en = .returned (.pointer (some ⟨g, 0, none⟩)) ∧ w.heap.size ≤ g ∧ RD w' g bs 0 0 ∧ Fr No w w'

set_option maxRecDepth 100000 in
set_option maxHeartbeats 400000 in
theorem newReader_any (A : Option Addr) (n c B : Nat) (bs : List UInt8) (w : World) (hl : bs.length = n) (hn : n ≤ c) (hc : c ≤ maxLen) (hb : n ≤ 140737488355328) (hB : B ≤ w.heap.size) (hr : Rd w B A (by8 bs)) :
    Calls Try.prog 61 #[.slice A n c] w (GivesRD w bs) := by
  have H := hide (clone_any A n c B bs w hl hn hc hb hB hr)
  have HL := hide hl
  clear hr hl
  go_enter Try.func61, Try.ntmps61
  go_wp2_with (go_at_call 92; refine H.out.mono ?_; rintro en w' ⟨v, rfl, hown, hfr⟩; obtain ⟨A', c', rfl, hq1, hq2, hq3, hq4⟩ := hown.form; have HO := hide hown; have HF := hide hfr; clear hown hfr hq3 hq4)
  go_ret
  refine ⟨w'.heap.size, rfl, HF.out.size, ⟨A', c', heap_alloc_new w' _, hq1, hq2, Nat.zero_le _, by rw [HL.out]; exact hb, ?_⟩, HF.out.alloc _⟩
  exact (HO.out.lower (Nat.zero_le _)).fr0 ((Fr.refl _ _).alloc _)

set_option maxRecDepth 100000 in
set_option maxHeartbeats 400000 in
theorem left_any (g : Nat) (bs : List UInt8) (a : Nat) (e : Int) (w : World) (h : RD w g bs a e) :
    Calls Try.prog 67 #[.pointer (some ⟨g, 0, none⟩)] w (RetQ (.int .i64 ((bs.length - a : Nat) : Int)) w) := by
  obtain ⟨A, c, ⟨c0, c1, c2⟩, hf, h1, h2, h3, h4, hr⟩ := h.parts
  have hx : ((bs.length - a : Nat) : Int) = (bs.length : Int) - a := by omega
  have HX := hide hx
  clear h hr hx
  generalize bs.length = n at *
  go_enter Try.func67, Try.ntmps67
  go_wp2
  go_quiet (fail)
  go_wp2
  go_ret
  exact ⟨by rw [HX.out]; rfl, _, rfl⟩

set_option maxRecDepth 100000 in
set_option maxHeartbeats 400000 in
theorem left_nil (w : World) : Calls Try.prog 67 #[.pointer none] w (Ret (.int .i64 0) w) := by
  go_enter Try.func67, Try.ntmps67
  go_wp2
  go_ret
  exact ⟨rfl, rfl⟩

set_option maxRecDepth 100000 in
set_option maxHeartbeats 400000 in
theorem err_any (g : Nat) (bs : List UInt8) (a : Nat) (e : Int) (w : World) (h : RD w g bs a e) :
    Calls Try.prog 64 #[.pointer (some ⟨g, 0, none⟩)] w (Ret (.int .i64 e) w) := by
  obtain ⟨A, c, ⟨c0, c1, c2⟩, hf, h1, h2, h3, h4, hr⟩ := h.parts
  clear h hr
  go_enter Try.func64, Try.ntmps64
  go_wp2
  go_ret
  exact ⟨rfl, rfl⟩

set_option maxRecDepth 100000 in
set_option maxHeartbeats 400000 in
theorem err_nil (w : World) : Calls Try.prog 64 #[.pointer none] w (Ret (.int .i64 20) w) := by
  go_enter Try.func64, Try.ntmps64
  go_wp2
  go_ret
  exact ⟨rfl, rfl⟩

def endE (bs : List UInt8) (a : Nat) (e : Int) : Int := if e = 0 ∧ a < bs.length then 20 else e

/-- where a reader's bytes lie: from M on. -/
def Up0 (w : World) (g M : Nat) : Prop := ∀ A n c, w.cell? ⟨g, 0, none⟩ = some (.slice A n c) → ∀ k, (Value.slice A n c).ownBlock = some k → M ≤ k

def GivesRU (w : World) (bs : List UInt8) (en : Ending) (w' : World) : Prop := ∃ g, en = .returned (.pointer (some ⟨g, 0, none⟩)) ∧ w.heap.size ≤ g ∧ RD w' g bs 0 0 ∧ Fr No w w' ∧ Up0 w' g w.heap.size

theorem RD.below {S : Nat → Prop} {w w' : World} {g M : Nat} {bs : List UInt8} {a : Nat} {e : Int} (h : RD w g bs a e) (h0 : Up0 w g M) (hg : M ≤ g) (f : Fr S w w') (hS : ∀ k, M ≤ k → ¬ S k) : RD w' g bs a e := by
  obtain ⟨A, c, hh, h1, h2', h3, h4, ho⟩ := h
  refine ⟨A, c, f.blk hh (hS g hg), h1, h2', h3, h4, ho.fr f ?_⟩
  intro k hk
  exact hS k (h0 A bs.length c (by rw [cell_of_row w g 0 _ _ (0, 0) hh]; rfl) k hk)

theorem Up0.fr0 {w w' : World} {g M : Nat} {bs : List UInt8} {a : Nat} {e : Int} (h : Up0 w g M) (r : RD w g bs a e) (f : Fr No w w') : Up0 w' g M := by
  intro A n c hc k hk
  obtain ⟨_, _, ⟨z, _⟩, _⟩ := r.parts
  have := f.cell (p := ⟨g, 0, none⟩) z (fun h => h)
  rw [this] at hc
  exact h A n c (by rw [z, hc]) k hk

set_option maxRecDepth 100000 in
set_option maxHeartbeats 400000 in
theorem newReader_up (A : Option Addr) (n c B : Nat) (bs : List UInt8) (w : World) (hl : bs.length = n) (hn : n ≤ c) (hc : c ≤ maxLen) (hb : n ≤ 140737488355328) (hB : B ≤ w.heap.size) (hr : Rd w B A (by8 bs)) :
    Calls Try.prog 61 #[.slice A n c] w (GivesRU w bs) := by
  have H := hide (clone_any A n c B bs w hl hn hc hb hB hr)
  have HL := hide hl
  clear hr hl
  go_enter Try.func61, Try.ntmps61
  go_wp2_with (go_at_call 92; refine H.out.mono ?_; rintro en w' ⟨v, rfl, hown, hfr⟩; obtain ⟨A', c', rfl, hq1, hq2, hq3, hq4⟩ := hown.form; have HO := hide hown; have HF := hide hfr; clear hown hfr hq3 hq4)
  go_ret
  refine ⟨w'.heap.size, rfl, HF.out.size, ⟨A', c', heap_alloc_new w' _, hq1, hq2, Nat.zero_le _, by rw [HL.out]; exact hb, ?_⟩, HF.out.alloc _, ?_⟩
  · exact (HO.out.lower (Nat.zero_le _)).fr0 ((Fr.refl _ _).alloc _)
  · intro A2 n2 c2 hc2 k hk
    rw [cell_of_row _ w'.heap.size 0 _ _ (0, 0) (heap_alloc_new w' _)] at hc2
    have : Value.slice A' bs.length c' = .slice A2 n2 c2 := by simpa using hc2
    rw [← this] at hk
    exact (HO.out.lt k hk).1

end Go.Proofs.Ytpnhnnhocekchaa
