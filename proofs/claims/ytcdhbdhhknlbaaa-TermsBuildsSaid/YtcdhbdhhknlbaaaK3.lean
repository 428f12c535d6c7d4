/- Several texts in one: TerR, LowP, Mem4, Apart8, BSl. -/
import Derived.Test.YtcdhbdhhknlbaaaK2
import Derived.Deep.DeepAppendWide
import Derived.Lib.SlBytesConst
namespace Go.Proofs.Ytcdhbdhhknlbaaa
set_option linter.unusedVariables false
set_option linter.unusedSimpArgs false
open Go.RowKit

def nextT (bs : List UInt8) (p : Tx) (a : Nat) (e : Int) : Tx × Nat × Int :=
  let k := sizeS bs a e (p.length : Nat)
  let t := textS bs k.2.1 k.2.2 4096
  if t.2.2 ≠ 0 ∨ ¬ p < p.take k.1 ++ t.1 ∨ shN p (p.take k.1 ++ t.1) ≠ k.1 ∨ 4096 < (p.take k.1 ++ t.1).length then ([], t.2.1, t.2.2) else (p.take k.1 ++ t.1, t.2.1, t.2.2)
def rdA (bs : List UInt8) : Nat → List Tx → Nat → Int → Option (List Tx) × Nat × Int
  | 0, acc, a, e => (some acc, a, e)
  | m + 1, acc, a, e => if (nextT bs (acc.getD (acc.length - 1) []) a e).1 = [] then (none, (nextT bs (acc.getD (acc.length - 1) []) a e).2)
      else rdA bs m (acc ++ [(nextT bs (acc.getD (acc.length - 1) []) a e).1]) (nextT bs (acc.getD (acc.length - 1) []) a e).2.1 (nextT bs (acc.getD (acc.length - 1) []) a e).2.2
def rdV (bs : List UInt8) : Nat → List Nat → Nat → Int → List Nat × Nat × Int
  | 0, acc, a, e => (acc, a, e)
  | m + 1, acc, a, e => rdV bs m (acc ++ [(uintR bs a e).1]) (uintR bs a e).2.1 (uintR bs a e).2.2
def rdT (bs : List UInt8) (n a : Nat) (e : Int) : Option (List Tx) × Nat × Int :=
  rdA bs (n - 1) [(textS bs a e 4096).1] (textS bs a e 4096).2.1 (textS bs a e 4096).2.2

theorem next_has {bs : List UInt8} {p s : Tx} {a : Nat} (hp : p.length ≤ 4096) (hs : s.length ≤ 4096) (hlt : p < s) (h : enc (shN p s) ++ txt (s.drop (shN p s)) <+: bs.drop a) :
    nextT bs p a 0 = (s, a + (enc (shN p s) ++ txt (s.drop (shN p s))).length, 0) := by
  have hle := shN_le p s
  rw [pre_app] at h
  have h1 := size_has (bs := bs) (a := a) (u := shN p s) (most := (p.length : Nat)) (by omega) (by omega) h.1
  have h2 := text_has (bs := bs) (s := s.drop (shN p s)) (a := a + (enc (shN p s)).length) (most := 4096) (by rw [List.length_drop]; omega) (by rw [List.length_drop]; omega) h.2
  have e3 : p.take (shN p s) ++ s.drop (shN p s) = s := by rw [shN_take, List.take_append_drop]
  unfold nextT
  rw [h1]
  dsimp only
  rw [h2]
  dsimp only
  rw [e3, if_neg (by
    rintro (h | h | h | h)
    · exact h rfl
    · exact h hlt
    · exact h rfl
    · omega)]
  rw [List.length_append, txt]
  simp [Nat.add_assoc]
theorem next_of {bs : List UInt8} {p : Tx} {a : Nat} {e : Int} (hne : (nextT bs p a e).1 ≠ []) :
    ∃ s a', nextT bs p a e = (s, a', 0) ∧ e = 0 ∧ p < s ∧ s.length ≤ 4096 ∧ enc (shN p s) ++ txt (s.drop (shN p s)) <+: bs.drop a ∧ a' = a + (enc (shN p s) ++ txt (s.drop (shN p s))).length := by
  unfold nextT at hne ⊢
  dsimp only at hne ⊢
  split at hne
  · exact absurd rfl hne
  · rename_i hc
    rw [if_neg hc]
    obtain ⟨h1, h2, h3, h4⟩ : _ ∧ _ ∧ _ ∧ _ := ⟨fun h => hc (.inl h), fun h => hc (.inr (.inl h)), fun h => hc (.inr (.inr (.inl h))), fun h => hc (.inr (.inr (.inr h)))⟩
    clear hc
    have h1 : (textS bs (sizeS bs a e (p.length : Nat)).2.1 (sizeS bs a e (p.length : Nat)).2.2 4096).2.2 = 0 := Classical.not_not.1 h1
    have h2 := Classical.not_not.1 h2
    have h3 := Classical.not_not.1 h3
    obtain ⟨t1, t2, t3, t4, t5⟩ := text_of h1
    obtain ⟨k1, k2, k3, k4, k5⟩ := size_of t1
    have kle : (sizeS bs a e (p.length : Nat)).1 ≤ p.length := by omega
    have e4 : (p.take (sizeS bs a e (p.length : Nat)).1 ++ (textS bs (sizeS bs a e (p.length : Nat)).2.1 (sizeS bs a e (p.length : Nat)).2.2 4096).1).drop (sizeS bs a e (p.length : Nat)).1 =
        (textS bs (sizeS bs a e (p.length : Nat)).2.1 (sizeS bs a e (p.length : Nat)).2.2 4096).1 := by
      rw [List.drop_left' (by rw [List.length_take]; omega)]
    refine ⟨_, _, by rw [h1], k1, h2, Nat.not_lt.1 h4, ?_, ?_⟩
    · rw [h3, e4, pre_app]
      refine ⟨k4, ?_⟩
      rw [← k5]
      exact t4
    · rw [h3, e4, t5, k5, txt]
      simp only [List.length_append]
      omega

theorem rdV_has {bs : List UInt8} : ∀ (vs : List Nat) (acc : List Nat) (a : Nat), U64s vs → valB vs <+: bs.drop a → rdV bs vs.length acc a 0 = (acc ++ vs, a + (valB vs).length, 0)
  | [], acc, a, _, _ => by simp [rdV, valB]
  | v :: r, acc, a, hu, h => by
    have e : valB (v :: r) = enc v ++ valB r := rfl
    rw [e, pre_app] at h
    have h1 := uint_has (hu v List.mem_cons_self) h.1
    rw [List.length_cons, rdV, h1]
    dsimp only
    rw [rdV_has r _ _ (fun x hx => hu x (List.mem_cons_of_mem _ hx)) h.2, e, List.length_append]
    simp [Nat.add_assoc]
theorem rdV_of {bs : List UInt8} : ∀ (m : Nat) (acc : List Nat) (a : Nat) (e : Int), (rdV bs m acc a e).2.2 = 0 →
    ∃ vs, vs.length = m ∧ U64s vs ∧ rdV bs m acc a e = (acc ++ vs, a + (valB vs).length, 0) ∧ e = 0 ∧ valB vs <+: bs.drop a
  | 0, acc, a, e, h => ⟨[], rfl, (fun v hv => nomatch hv), (by
      have h : e = 0 := h
      subst h
      simp [rdV, valB]), h, pre_nil⟩
  | m + 1, acc, a, e, h => by
    rw [rdV] at h
    obtain ⟨vs, h1, h2, h3, h4, h5⟩ := rdV_of m _ _ _ h
    obtain ⟨u1, u2, u3, u4⟩ := uint_of h4
    refine ⟨(uintR bs a e).1 :: vs, by simp [h1], ?_, ?_, u1, ?_⟩
    · intro v hv
      rcases List.mem_cons.1 hv with rfl | hv
      · exact u2
      · exact h2 v hv
    · rw [rdV, h3, u4]
      have e : valB ((uintR bs a e).1 :: vs) = enc (uintR bs a e).1 ++ valB vs := rfl
      rw [e, List.length_append]
      simp [Nat.add_assoc]
    · have e : valB ((uintR bs a e).1 :: vs) = enc (uintR bs a e).1 ++ valB vs := rfl
      rw [e, pre_app]
      exact ⟨u3, by rw [← u4]; exact h5⟩
theorem rdV_len {bs : List UInt8} : ∀ (m : Nat) (acc : List Nat) (a : Nat) (e : Int), (rdV bs m acc a e).1.length = acc.length + m
  | 0, acc, a, e => rfl
  | m + 1, acc, a, e => by rw [rdV, rdV_len m]; simp; omega

theorem getD_last (acc : List Tx) (s : Tx) : (acc ++ [s]).getD ((acc ++ [s]).length - 1) [] = s := by simp
theorem rdA_has {bs : List UInt8} : ∀ (r : List Tx) (acc : List Tx) (a : Nat), (∀ t ∈ acc.getD (acc.length - 1) [] :: r, t.length ≤ 4096) → Asc (acc.getD (acc.length - 1) [] :: r) → restB (acc.getD (acc.length - 1) []) r <+: bs.drop a →
    rdA bs r.length acc a 0 = (some (acc ++ r), a + (restB (acc.getD (acc.length - 1) []) r).length, 0)
  | [], acc, a, _, _, _ => by simp [rdA, restB]
  | s :: r, acc, a, hl, ha, h => by
    rw [restB, pre_app] at h
    have h1 := next_has (hl _ List.mem_cons_self) (hl s (by simp)) ha.1 h.1
    have hne : s ≠ [] := fun e => by rw [e] at ha; exact tl_nil _ ha.1
    rw [List.length_cons, rdA, h1]
    dsimp only
    rw [if_neg hne, rdA_has r (acc ++ [s]) _ (by rw [getD_last]; exact fun t ht => hl t (List.mem_cons_of_mem _ ht)) (by rw [getD_last]; exact ha.2) (by rw [getD_last]; exact h.2), getD_last, restB]
    simp [Nat.add_assoc]
theorem rdA_of {bs : List UInt8} : ∀ (m : Nat) (acc : List Tx) (a : Nat) (e : Int) (l : List Tx), (rdA bs m acc a e).1 = some l → (rdA bs m acc a e).2.2 = 0 →
    ∃ r, r.length = m ∧ l = acc ++ r ∧ rdA bs m acc a e = (some l, a + (restB (acc.getD (acc.length - 1) []) r).length, 0) ∧ e = 0 ∧ (∀ t ∈ r, t.length ≤ 4096) ∧ Asc (acc.getD (acc.length - 1) [] :: r) ∧ restB (acc.getD (acc.length - 1) []) r <+: bs.drop a
  | 0, acc, a, e, l, h, he => by
    rw [rdA] at h he
    injection h with h
    have he : e = 0 := he
    subst he
    exact ⟨[], rfl, by simp [h], by simp [rdA, restB, h], rfl, (fun t ht => nomatch ht), trivial, pre_nil⟩
  | m + 1, acc, a, e, l, h, he => by
    rw [rdA] at h he ⊢
    by_cases hne : (nextT bs (acc.getD (acc.length - 1) []) a e).1 = []
    · rw [if_pos hne] at h
      cases h
    · rw [if_neg hne] at h he ⊢
      obtain ⟨s, a', h1, h2, h3, h4, h5, h6⟩ := next_of hne
      rw [h1] at h he ⊢
      dsimp only at h he ⊢
      obtain ⟨r, r1, r2, r3, r4, r5, r6, r7⟩ := rdA_of m _ _ _ l h he
      rw [getD_last] at r3 r6 r7
      refine ⟨s :: r, by simp [r1], by rw [r2]; simp, ?_, h2, ?_, ⟨h3, r6⟩, ?_⟩
      · rw [r3, h6, restB]
        simp [Nat.add_assoc]
      · intro t ht
        rcases List.mem_cons.1 ht with rfl | ht
        · exact h4
        · exact r5 t ht
      · rw [restB, pre_app]
        exact ⟨h5, by rw [← h6]; exact r7⟩

/-- terms of a block that has them. -/
theorem rdT_has {bs : List UInt8} {l : List Tx} {a : Nat} (h0 : 0 < l.length) (hl : ∀ t ∈ l, t.length ≤ 4096) (ha : Asc l) (h : termsB l <+: bs.drop a) : rdT bs l.length a 0 = (some l, a + (termsB l).length, 0) := by
  cases l with
  | nil => simp at h0
  | cons s r =>
    rw [termsB, pre_app] at h
    have h3 := hl s List.mem_cons_self
    have h1 := text_has (bs := bs) (s := s) (a := a) (most := 4096) (by omega) (by omega) h.1
    unfold rdT
    rw [h1]
    dsimp only
    rw [List.length_cons, Nat.add_sub_cancel, rdA_has r [s] _ (by simpa using hl) (by simpa using ha) (by simpa [txt] using h.2), termsB]
    simp [txt, Nat.add_assoc]
theorem rdT_of {bs : List UInt8} {l : List Tx} {n a : Nat} {e : Int} (hn : 0 < n) (h1 : (rdT bs n a e).1 = some l) (h2 : (rdT bs n a e).2.2 = 0) :
    l.length = n ∧ rdT bs n a e = (some l, a + (termsB l).length, 0) ∧ e = 0 ∧ (∀ t ∈ l, t.length ≤ 4096) ∧ Asc l ∧ termsB l <+: bs.drop a := by
  unfold rdT at h1 h2 ⊢
  obtain ⟨r, r1, r2, r3, r4, r5, r6, r7⟩ := rdA_of _ _ _ _ l h1 h2
  obtain ⟨t1, t2, t3, t4, t5⟩ := text_of r4
  simp only [List.length_singleton, Nat.sub_self, List.getD_cons_zero] at r3 r6 r7
  subst r2
  refine ⟨by simp [r1]; omega, ?_, t1, ?_, r6, ?_⟩
  · rw [r3, t5]
    simp [termsB, txt, Nat.add_assoc]
  · intro t ht
    rcases List.mem_cons.1 ht with rfl | ht
    · omega
    · exact r5 t ht
  · rw [List.singleton_append, termsB, pre_app]
    exact ⟨t4, by rw [t5] at r7; exact r7⟩

/-- a block that is there is read. -/
theorem blk_has {bs : List UInt8} {l : List Tx} {vs : List Nat} {a : Nat} (h0 : 0 < l.length) (hv : vs.length = l.length) (hl : ∀ t ∈ l, t.length ≤ 4096) (ha : Asc l) (hu : U64s vs) (h : blkT l vs <+: bs.drop a) :
    rdT bs l.length a 0 = (some l, a + (termsB l).length, 0) ∧ rdV bs l.length [] (a + (termsB l).length) 0 = (vs, a + (blkT l vs).length, 0) := by
  rw [blkT, pre_app] at h
  refine ⟨rdT_has h0 hl ha h.1, ?_⟩
  rw [← hv, rdV_has vs [] _ hu h.2, blkT, List.length_append]
  simp [Nat.add_assoc]
theorem blk_of {bs : List UInt8} {l : List Tx} {n a : Nat} {e : Int} (hn : 0 < n) (h1 : (rdT bs n a e).1 = some l) (h2 : (rdV bs n [] (rdT bs n a e).2.1 (rdT bs n a e).2.2).2.2 = 0) :
    ∃ vs, l.length = n ∧ vs.length = n ∧ (rdT bs n a e).2.2 = 0 ∧ rdV bs n [] (rdT bs n a e).2.1 (rdT bs n a e).2.2 = (vs, a + (blkT l vs).length, 0) ∧ e = 0 ∧ (∀ t ∈ l, t.length ≤ 4096) ∧ Asc l ∧ U64s vs ∧ blkT l vs <+: bs.drop a := by
  obtain ⟨vs, v1, v2, v3, v4, v5⟩ := rdV_of _ _ _ _ h2
  obtain ⟨t1, t2, t3, t4, t5, t6⟩ := rdT_of hn h1 v4
  rw [t2] at v3 v5 ⊢
  dsimp only at v3 v5 ⊢
  refine ⟨vs, t1, v1, rfl, ?_, t3, t4, t5, v2, ?_⟩
  · rw [v3, blkT, List.length_append]
    simp [Nat.add_assoc]
  · rw [blkT, pre_app]
    exact ⟨t6, v5⟩
end Go.Proofs.Ytcdhbdhhknlbaaa
namespace Go.Proofs.Ytcdhbdhhknlbaaa
set_option linter.unusedVariables false
set_option linter.unusedSimpArgs false
open Go.RowKit

def lowT (l : List Tx) (s : Tx) : Nat := l.countP fun t => decide (t < s)
theorem lowT_le (l : List Tx) (s : Tx) : lowT l s ≤ l.length := List.countP_le_length
theorem asc_cons {a : Tx} {r : List Tx} (h : Asc (a :: r)) : Asc r ∧ ∀ x ∈ r, a < x := by
  constructor
  · cases r with
    | nil => trivial
    | cons b r => exact h.2
  · intro x hx
    obtain ⟨i, hi, rfl⟩ := List.getElem_of_mem hx
    have := h.lt (i := 0) (j := i + 1) (by omega) (by simp; omega)
    simpa [List.getD, List.getElem?_eq_getElem hi] using this
theorem lowT_zero {l : List Tx} {s : Tx} (h : ∀ t ∈ l, ¬ t < s) : lowT l s = 0 := by
  unfold lowT
  rw [List.countP_eq_zero]
  intro t ht
  simpa using h t ht
theorem lowT_all {l : List Tx} {s : Tx} (h : ∀ t ∈ l, t < s) : lowT l s = l.length := by
  unfold lowT
  rw [List.countP_eq_length]
  intro t ht
  simpa using h t ht
theorem lowT_app (l m : List Tx) (s : Tx) : lowT (l ++ m) s = lowT l s + lowT m s := by unfold lowT; rw [List.countP_append]
theorem low_iff {s : Tx} : ∀ {l : List Tx} (_ : Asc l) {i : Nat} (_ : i < l.length), l.getD i [] < s ↔ i < lowT l s
  | [], _, i, hi => by simp at hi
  | a :: r, h, i, hi => by
    obtain ⟨h1, h2⟩ := asc_cons h
    by_cases ha : a < s
    · have e : lowT (a :: r) s = lowT r s + 1 := by unfold lowT; simp [List.countP_cons, ha]
      cases i with
      | zero => simp [ha, e]
      | succ i =>
        have := low_iff (s := s) h1 (i := i) (by simpa using hi)
        rw [e]
        simp only [List.getD_cons_succ]
        rw [this]
        omega
    · have e : lowT (a :: r) s = 0 := lowT_zero (fun t ht => by
        rcases List.mem_cons.1 ht with rfl | ht
        · exact ha
        · exact fun k => ha (tl_trans (h2 t ht) k))
      rw [e]
      constructor
      · intro k
        exfalso
        have hm : (a :: r).getD i [] ∈ a :: r := by
          rw [List.getD, List.getElem?_eq_getElem hi]
          exact List.getElem_mem hi
        rcases List.mem_cons.1 hm with h3 | h3
        · rw [h3] at k; exact ha k
        · exact ha (tl_trans (h2 _ h3) k)
      · intro k; omega

/-- a block at a time. -/
theorem low_blk {l : List Tx} {s : Tx} (h : Asc l) {j : Nat} (hj : 16 * j < l.length) (h1 : ¬ s < l.getD (16 * j) []) (h2 : 16 * (j + 1) < l.length → s < l.getD (16 * (j + 1)) []) : lowT l s = 16 * j + lowT (blkOf l j) s := by
  have e : l = l.take (16 * j) ++ (blkOf l j ++ l.drop (16 * j + 16)) := by
    unfold blkOf
    rw [← List.drop_drop, List.take_append_drop, List.take_append_drop]
  have e1 : lowT (l.take (16 * j)) s = 16 * j := by
    rw [lowT_all, List.length_take]
    · omega
    · intro t ht
      obtain ⟨i, hi, rfl⟩ := List.getElem_of_mem ht
      rw [List.length_take] at hi
      rw [List.getElem_take]
      have h3 := h.lt (i := i) (j := 16 * j) (by omega) hj
      have e4 : l.getD i [] = l[i]'(by omega) := by simp [List.getD, List.getElem?_eq_getElem (show i < l.length by omega)]
      rw [e4] at h3
      rcases tl_total s (l.getD (16 * j) []) with k | k | k
      · exact absurd k h1
      · rw [k]; exact h3
      · exact tl_trans h3 k
  have e2 : lowT (l.drop (16 * j + 16)) s = 0 := lowT_zero (fun t ht k => by
    obtain ⟨i, hi, rfl⟩ := List.getElem_of_mem ht
    rw [List.length_drop] at hi
    rw [List.getElem_drop] at k
    have h3 := h2 (by omega)
    have e4 : l.getD (16 * j + 16 + i) [] = l[16 * j + 16 + i]'(by omega) := by simp [List.getD, List.getElem?_eq_getElem (show 16 * j + 16 + i < l.length by omega)]
    rw [← e4] at k
    rw [show 16 * (j + 1) = 16 * j + 16 by omega] at h3
    by_cases h0 : i = 0
    · subst h0
      exact tl_irrefl _ (tl_trans h3 k)
    · exact tl_irrefl _ (tl_trans h3 (tl_trans (h.lt (i := 16 * j + 16) (j := 16 * j + 16 + i) (by omega) (by omega)) k)))
  have e3 : lowT l s = lowT (l.take (16 * j) ++ (blkOf l j ++ l.drop (16 * j + 16))) s := by rw [← e]
  rw [e3, lowT_app, lowT_app, e1, e2]
  omega
/-- how many blocks' first terms are not above a text. -/
def upT (fs : List Tx) (s : Tx) : Nat := (List.range fs.length).countP fun i => !decide (s < fs.getD i [])
end Go.Proofs.Ytcdhbdhhknlbaaa
namespace Go.Proofs.Ytcdhbdhhknlbaaa
set_option linter.unusedVariables false
set_option linter.unusedSimpArgs false
open Go.RowKit

section
variable {P : Program} (w : World)
/-- append onto a slice of the call's own, from whatever source. -/
theorem run_append_wide (base : Nat) (t tx ty e : TypeId) (i : TypeInfo) (z : Value) (size bytes : Nat) (ht : P.underlying t = some (.slice e)) (hi : P.info? e = some i) (hz : i.zero = some z)
    (hsize : i.size = size) (hby : i.bytes = bytes) (hzs : z.cells.size = size)
    (v : Value) (n : Nat) (xs : List Value) (hown : Own w base e size v n xs) (x : Value) (m : Nat) (news : List Value) (hs : Src P size tx x m news w)
    (hbytes : ((n + m) + (n + m) / 4 + 192) * bytes ≤ 281474976710656) (h63 : n + m ≤ maxLen) (hbase : base ≤ w.heap.size) :
    ∃ v' w', (Builtin.append_ #[t, tx] ty #[v, x]).run P w = .ok v' w' ∧ Own w' base e size v' (n + m) (xs ++ news) ∧ Fr (fun k => v.ownBlock = some k) w w' ∧
      (v'.ownBlock = v.ownBlock ∨ v'.ownBlock = some w.heap.size) := by
  subst hsize
  subst hby
  have hlen : (xs ++ news).length = (n + m) * i.size := by rw [List.length_append, hown.1, hs.newsLen, Nat.add_mul]
  have h63' : n + m ≤ 9223372036854775807 := by simp only [maxLen] at h63; omega
  have hown' := hown
  obtain ⟨hl, A, c, rfl, hc, hm, hA⟩ := hown
  by_cases hroom : n + m ≤ c
  · rcases hA with ⟨rfl, rfl⟩ | ⟨g, cur, rfl, hb, hh, hcs, htk⟩
    · have hn0 : n = 0 := by omega
      have hm0 : m = 0 := by omega
      subst hn0; subst hm0
      have h1 : xs = [] := List.eq_nil_of_length_eq_zero (by simpa using hl)
      have h2 : news = [] := List.eq_nil_of_length_eq_zero (by simpa using hs.newsLen)
      subst h1; subst h2
      refine ⟨.slice none 0 0, w, ?_, Own.nil _ _ _ _, Fr.refl _ _, .inl rfl⟩
      rcases hs.kind with ⟨e', hk⟩ | hk <;> simp [Builtin.append_, run_underlying ht, run_underlying hk, sizeOf, typeInfo, hi, hs.len, hs.cells]
    · have hfit : n * i.size + news.length ≤ cur.size := by
        rw [hs.newsLen, ← Nat.add_mul]
        exact Nat.le_trans (Nat.mul_le_mul_right _ hroom) hcs
      have hst := run_storeCells_at P g (n * i.size) e news 0 cur w hh (by simpa using hfit) hs.one
      simp only [Nat.add_zero] at hst
      refine ⟨.slice (some ⟨g, 0, none⟩) (n + m) c, w.setRow g (cur.toList.take (n * i.size) ++ news ++ cur.toList.drop (n * i.size + news.length)).toArray, ?_, ⟨hlen, _, c, rfl, hroom, hm, .inr ⟨g, _, rfl, hb, setRow_heap w g cur _ e _ hh, ?_, ?_⟩⟩, ⟨rfl, rfl, rfl, by simp, fun k _ hk => setRow_other w g k _ (fun e => hk (by simp [Value.ownBlock, e]))⟩, .inl rfl⟩
      · rcases hs.kind with ⟨e', hk⟩ | hk <;> simp [Builtin.append_, run_underlying ht, run_underlying hk, sizeOf, typeInfo, hi, hs.len, hroom, hs.cells, Addr.add_lit, hst]
      · simp only [List.size_toArray, List.length_append, List.length_take, List.length_drop, Array.length_toList]
        omega
      · rw [htk, ← hlen]
        exact List.take_left
  · have hold : (Builtin.firstCells i.size n (.slice A n c)).run P w.drew = .ok xs.toArray w.drew := by
      rcases A with _ | ad
      · have hn0 : n = 0 := by
          rcases hA with ⟨_, h0⟩ | ⟨g, _, h, _⟩
          · omega
          · cases h
        subst hn0
        have h1 : xs = [] := List.eq_nil_of_length_eq_zero (by simpa using hl)
        subst h1
        simp [run_firstCells_none]
      · refine run_firstCells_some (P := P) w.drew i.size n ad n c xs hl (fun j u hu => ?_)
        obtain ⟨ad', e', _, hc'⟩ := hown'.rd j u hu
        injection e' with e'
        subst e'
        exact hc'
    have hr := run_append_grow_src (P := P) w t tx ty e i z ht hi hz A n c xs hold x m news hs (by omega) (by omega) (growslice_fits_wide (by omega) hbytes)
    have hge := grownCap_ge w (n + m) c e
    have hcm : grownCap w (n + m) c e ≤ maxLen := grownCap_le_maxLen w (n + m) c e h63
    refine ⟨_, _, hr, ⟨hlen, _, _, rfl, hge, hcm, .inr ⟨w.heap.size, _, rfl, hbase, heap_alloc_new w.drew _, ?_, ?_⟩⟩, ⟨rfl, rfl, rfl, by simp, fun k hk _ => Below.heap_alloc w.drew _ k hk⟩, .inr rfl⟩
    · rw [Array.size_append, List.size_toArray, size_zeroCells, hzs, hlen, ← Nat.add_mul]
      exact Nat.le_of_eq (by congr 1; omega)
    · rw [Array.toList_append, ← hlen]
      exact List.take_left

theorem wp_append_wide {o : Oper} {a : Act} {K : Act → World → Prop} {Q : Exit → Act → World → Prop} (s x : Operand) (t tx : TypeId)
    (ho : o.op = .call { callee := .builtin .append, args := #[s, x], argTypes := #[t, tx] })
    (base : Nat) (e : TypeId) (i : TypeInfo) (z : Value) (size bytes : Nat) (ht : P.underlying t = some (.slice e)) (hi : P.info? e = some i) (hz : i.zero = some z)
    (hsize : i.size = size) (hby : i.bytes = bytes) (hzs : z.cells.size = size)
    (v : Value) (n : Nat) (xs : List Value) (hs : a.eval s = v) (hown : Own w base e size v n xs)
    (y : Value) (m : Nat) (news : List Value) (hx : a.eval x = y) (hsrc : Src P size tx y m news w)
    (hbytes : ((n + m) + (n + m) / 4 + 192) * bytes ≤ 281474976710656) (h63 : n + m ≤ maxLen) (hbase : base ≤ w.heap.size)
    (h : ∀ v' w', Own w' base e size v' (n + m) (xs ++ news) → Fr (fun k => v.ownBlock = some k) w w' → (v'.ownBlock = v.ownBlock ∨ v'.ownBlock = some w.heap.size) → K (a.put o.dst v') w') : o.wp P a w K Q := by
  obtain ⟨v', w', hrun, h2, h3, h4⟩ := run_append_wide (P := P) w base t tx o.type e i z size bytes ht hi hz hsize hby hzs v n xs hown y m news hsrc hbytes h63 hbase
  unfold Oper.wp execOp
  simp only [ho, resolve, invoke, builtin, Sem.run_bind, Sem.run_pure, Result.andThen_ok, List.map_toArray, List.map_cons, List.map_nil, hs, hx, hrun]
  exact h v' w' h2 h3 h4

theorem wpList_append_wide {ops : Array Oper} {rest : List Oper} {o : Oper} {a : Act} {Q : Exit → Act → World → Prop} (hgd : o.guard = none) (s x : Operand) (t tx : TypeId)
    (ho : o.op = .call { callee := .builtin .append, args := #[s, x], argTypes := #[t, tx] })
    (base : Nat) (e : TypeId) (i : TypeInfo) (z : Value) (size bytes : Nat) (ht : P.underlying t = some (.slice e)) (hi : P.info? e = some i) (hz : i.zero = some z)
    (hsize : i.size = size) (hby : i.bytes = bytes) (hzs : z.cells.size = size)
    (v : Value) (n : Nat) (xs : List Value) (hs : a.eval s = v) (hown : Own w base e size v n xs)
    (y : Value) (m : Nat) (news : List Value) (hx : a.eval x = y) (hsrc : Src P size tx y m news w)
    (hbytes : ((n + m) + (n + m) / 4 + 192) * bytes ≤ 281474976710656) (h63 : n + m ≤ maxLen) (hbase : base ≤ w.heap.size)
    (h : ∀ v' w', Own w' base e size v' (n + m) (xs ++ news) → Fr (fun k => v.ownBlock = some k) w w' → (v'.ownBlock = v.ownBlock ∨ v'.ownBlock = some w.heap.size) → wpList P ops Q rest (a.put o.dst v') w') : wpList P ops Q (o :: rest) a w :=
  wpList_plain hgd fun _ hK => wp_append_wide w s x t tx ho base e i z size bytes ht hi hz hsize hby hzs v n xs hs hown y m news hx hsrc hbytes h63 hbase fun v' w' h2 h3 h4 => hK _ _ (h v' w' h2 h3 h4)


/-- append onto a slice that has no room: a new block, whatever the old one is. -/
theorem run_append_full (base : Nat) (t tx ty e : TypeId) (i : TypeInfo) (z : Value) (size bytes : Nat) (ht : P.underlying t = some (.slice e)) (hi : P.info? e = some i) (hz : i.zero = some z)
    (hsize : i.size = size) (hby : i.bytes = bytes) (hzs : z.cells.size = size)
    (A : Option Addr) (n c B : Nat) (xs : List Value) (hl : xs.length = n * size) (hsz : 0 < size) (hr : Rd w B A xs) (x : Value) (m : Nat) (news : List Value) (hs : Src P size tx x m news w) (hfull : c < n + m)
    (hbytes : ((n + m) + (n + m) / 4 + 192) * bytes ≤ 281474976710656) (h63 : n + m ≤ maxLen) (hbase : base ≤ w.heap.size) :
    ∃ v' w', (Builtin.append_ #[t, tx] ty #[.slice A n c, x]).run P w = .ok v' w' ∧ Own w' base e size v' (n + m) (xs ++ news) ∧ Fr No w w' := by
  subst hsize
  subst hby
  have hlen : (xs ++ news).length = (n + m) * i.size := by rw [List.length_append, hl, hs.newsLen, Nat.add_mul]
  have h63' : n + m ≤ 9223372036854775807 := by simp only [maxLen] at h63; omega
  have hold : (Builtin.firstCells i.size n (.slice A n c)).run P w.drew = .ok xs.toArray w.drew := by
    rcases A with _ | ad
    · have h1 : xs = [] := by
        cases xs with
        | nil => rfl
        | cons u us => obtain ⟨_, h, _⟩ := hr 0 u rfl; cases h
      subst h1
      have hn0 : n = 0 := by
        rcases Nat.mul_eq_zero.1 hl.symm with h | h
        · exact h
        · omega
      subst hn0
      simp [run_firstCells_none]
    · refine run_firstCells_some (P := P) w.drew i.size n ad n c xs hl (fun j u hu => ?_)
      obtain ⟨ad', e', _, hc'⟩ := hr j u hu
      injection e' with e'
      subst e'
      exact hc'
  have hr := run_append_grow_src (P := P) w t tx ty e i z ht hi hz A n c xs hold x m news hs (by omega) (by omega) (growslice_fits_wide (by omega) hbytes)
  have hge := grownCap_ge w (n + m) c e
  have hcm : grownCap w (n + m) c e ≤ maxLen := grownCap_le_maxLen w (n + m) c e h63
  refine ⟨_, _, hr, ⟨hlen, _, _, rfl, hge, hcm, .inr ⟨w.heap.size, _, rfl, hbase, heap_alloc_new w.drew _, ?_, ?_⟩⟩, ⟨rfl, rfl, rfl, by simp, fun k hk _ => Below.heap_alloc w.drew _ k hk⟩⟩
  · rw [Array.size_append, List.size_toArray, size_zeroCells, hzs, hlen, ← Nat.add_mul]
    exact Nat.le_of_eq (by congr 1; omega)
  · rw [Array.toList_append, ← hlen]
    exact List.take_left
theorem wpList_append_full {ops : Array Oper} {rest : List Oper} {o : Oper} {a : Act} {Q : Exit → Act → World → Prop} (hgd : o.guard = none) (s x : Operand) (t tx : TypeId)
    (ho : o.op = .call { callee := .builtin .append, args := #[s, x], argTypes := #[t, tx] })
    (base : Nat) (e : TypeId) (i : TypeInfo) (z : Value) (size bytes : Nat) (ht : P.underlying t = some (.slice e)) (hi : P.info? e = some i) (hz : i.zero = some z)
    (hsize : i.size = size) (hby : i.bytes = bytes) (hzs : z.cells.size = size)
    (A : Option Addr) (n c B : Nat) (xs : List Value) (hs : a.eval s = .slice A n c) (hl : xs.length = n * size) (hsz : 0 < size) (hr : Rd w B A xs)
    (y : Value) (m : Nat) (news : List Value) (hx : a.eval x = y) (hsrc : Src P size tx y m news w) (hfull : c < n + m)
    (hbytes : ((n + m) + (n + m) / 4 + 192) * bytes ≤ 281474976710656) (h63 : n + m ≤ maxLen) (hbase : base ≤ w.heap.size)
    (h : ∀ v' w', Own w' base e size v' (n + m) (xs ++ news) → Fr No w w' → wpList P ops Q rest (a.put o.dst v') w') : wpList P ops Q (o :: rest) a w :=
  wpList_plain hgd fun _ hK => by
    obtain ⟨v', w', hrun, h2, h3⟩ := run_append_full (P := P) w base t tx o.type e i z size bytes ht hi hz hsize hby hzs A n c B xs hl hsz hr y m news hsrc hfull hbytes h63 hbase
    unfold Oper.wp execOp
    simp only [ho, resolve, invoke, builtin, Sem.run_bind, Sem.run_pure, Result.andThen_ok, List.map_toArray, List.map_cons, List.map_nil, hs, hx, hrun]
    exact hK _ _ (h v' w' h2 h3)
end
/-- new bytes, as a literal lays them. -/
theorem own_new8 (w : World) (cs : Array Value) (n : Nat) (bs : List UInt8) (e : TypeId) (h : cs.toList = by8 bs) (hn : bs.length = n) (hm : n ≤ maxLen) :
    Own (w.alloc (.cells cs e)) w.heap.size e 1 (.slice (some ⟨w.heap.size, 0, none⟩) n n) n (by8 bs) := by
  subst hn
  have hl : cs.size = bs.length := by
    have := congrArg List.length h
    rw [by8_length] at this
    simpa using this
  exact ⟨by rw [by8_length, Nat.mul_one], _, _, rfl, Nat.le_refl _, hm, .inr ⟨w.heap.size, cs, rfl, Nat.le_refl _, heap_alloc_new w _, by omega, by rw [h, Nat.mul_one, List.take_of_length_le (by rw [by8_length]; exact Nat.le_refl _)]⟩⟩
/-- a block's cells, as they stand. -/
theorem Rd.block {w : World} {g : Nat} {cs : Array Value} {e : TypeId} {fz : Nat × Nat} (hg : w.heap[g]? = some (.cells cs e fz)) : Rd w (g + 1) (some ⟨g, 0, none⟩) cs.toList := fun j u hu => by
  refine ⟨_, rfl, by simp, ?_⟩
  rw [Addr.add_lit, Nat.zero_add, cell_of_row w g j cs e fz hg]
  simpa using hu
end Go.Proofs.Ytcdhbdhhknlbaaa
namespace Go.Proofs.Ytcdhbdhhknlbaaa
set_option linter.unusedVariables false
set_option linter.unusedSimpArgs false
open Go.RowKit

theorem Try.info8 : (Try.prog.info? 5).map (fun i => (i.zero, i.size, i.bytes)) = some (some (.int .u8 0), 1, 1) := by kernel_rfl
theorem Try.infoS8 : (Try.prog.info? 24).map (fun i => (i.zero, i.size, i.bytes)) = some (some (.slice none 0 0), 1, 24) := by kernel_rfl

/-- rows of memory that are apart. -/
structure Apart (m : Nat) (A : Nat → Option Addr) (N C : Nat → Nat) : Prop where
  dis : ∀ i j, i < m → j < m → i ≠ j → ∀ k, (Value.slice (A i) (N i) (C i)).ownBlock = some k → (Value.slice (A j) (N j) (C j)).ownBlock ≠ some k
def Owns (w : World) (base e m : Nat) (A : Nat → Option Addr) (N C : Nat → Nat) (Z : Nat → List Value) : Prop := ∀ j, j < m → Own w base e 1 (.slice (A j) (N j) (C j)) (N j) (Z j)
/-- the blocks of rows. -/
def Blocks (m : Nat) (A : Nat → Option Addr) (N C : Nat → Nat) : Nat → Prop := fun k => ∃ j, j < m ∧ (Value.slice (A j) (N j) (C j)).ownBlock = some k
def upd (Z : Nat → List Value) (i : Nat) (z : List Value) : Nat → List Value := fun j => if j = i then z else Z j
theorem upd_same (Z : Nat → List Value) (i : Nat) (z : List Value) : upd Z i z i = z := if_pos rfl
theorem upd_other (Z : Nat → List Value) {i j : Nat} (z : List Value) (h : j ≠ i) : upd Z i z j = Z j := if_neg h

section
variable {w : World} {base e m : Nat} {A : Nat → Option Addr} {N C : Nat → Nat} {Z : Nat → List Value}
theorem Owns.store (h : Owns w base e m A N C Z) (ha : Apart m A N C) {i k : Nat} (hi : i < m) (hk : k < N i) :
    ∃ g, A i = some ⟨g, 0, none⟩ ∧ g < w.heap.size ∧ w.cell? ⟨g, k, none⟩ = (Z i)[k]? ∧ w.frozen? ⟨g, k, none⟩ = false ∧
      (∀ q cs t fz, w.heap[q]? = some (.cells cs t fz) → e ≠ t → g ≠ q) ∧
      ∀ v : Value, Owns (w.setCell ⟨g, k, none⟩ v) base e m A N C (upd Z i ((Z i).set k v)) ∧ Fr (Blocks m A N C) w (w.setCell ⟨g, k, none⟩ v) := by
  obtain ⟨g, hA, hb, hl, hc, hf, hs⟩ := (h i hi).store hk
  have hob : (Value.slice (A i) (N i) (C i)).ownBlock = some g := by rw [hA]; rfl
  refine ⟨g, hA, hl, hc, hf, ?_, ?_⟩
  · rintro q cs t fz hq hne rfl
    exact (h i hi).ne_blk hob hq hne
  · intro v
    refine ⟨?_, (Fr.refl _ _).setCell (p := ⟨g, k, none⟩) (fun _ => ⟨i, hi, hob⟩) v⟩
    intro j hj
    by_cases hij : j = i
    · subst hij
      rw [upd_same]
      exact hs v
    · rw [upd_other _ _ hij]
      refine (h j hj).fr ((Fr.refl (Is g) w).setCell (p := ⟨g, k, none⟩) (fun _ => rfl) v) ?_
      rintro g' hg' rfl
      exact ha.dis i j hi hj (fun e => hij e.symm) _ hob hg'
end

/-- what is written. -/
def mk1 (j n : Nat) : List Value := (List.range n).map fun k : Nat => .int .u8 ((37 * (j : Int) + (k : Int)) % 256)
def mk2 (j : Nat) : List Value := (List.range 70).map fun k : Nat => .int .u8 ((11 * (j : Int) + (k : Int)) % 256)
theorem mk1_at {j n k : Nat} (h : k < n) : (mk1 j n)[k]? = some (.int .u8 ((37 * (j : Int) + (k : Int)) % 256)) := by simp [mk1, List.getElem?_range h]
theorem mk2_at {j k : Nat} (h : k < 70) : (mk2 j)[k]? = some (.int .u8 ((11 * (j : Int) + (k : Int)) % 256)) := by simp [mk2, List.getElem?_range h]
theorem mk1_len (j n : Nat) : (mk1 j n).length = n := by simp [mk1]
theorem mk2_len (j : Nat) : (mk2 j).length = 70 := by simp [mk2]
theorem take_set_snoc {z y : List Value} {k : Nat} {v : Value} (h : z.take k = y.take k) (hy : y[k]? = some v) (hk : k < z.length) : (z.set k v).take (k + 1) = y.take (k + 1) := by
  obtain ⟨hl, rfl⟩ := List.getElem?_eq_some_iff.1 hy
  rw [List.take_succ_eq_append_getElem (by simpa using hk), List.take_succ_eq_append_getElem hl, List.take_set_of_le (by omega), h]
  simp

theorem Own.ne_own {w : World} {b1 e1 s1 n1 b2 e2 s2 n2 : Nat} {v1 v2 : Value} {x1 x2 : List Value} (h1 : Own w b1 e1 s1 v1 n1 x1) (h2 : Own w b2 e2 s2 v2 n2 x2) (hne : e1 ≠ e2) {k : Nat} (hk : v2.ownBlock = some k) : v1.ownBlock ≠ some k := by
  intro hk1
  obtain ⟨_, A, c, rfl, _, _, hA⟩ := h2
  rcases hA with ⟨rfl, _⟩ | ⟨g, cur, rfl, hb, hh, _⟩
  · simp [Value.ownBlock] at hk
  · have e : g = k := Option.some.inj hk
    subst e
    exact h1.ne_blk hk1 hh hne
theorem Rd.fr2 {w w' : World} {B : Nat} {A : Option Addr} {xs : List Value} {S : Nat → Prop} (h : Rd w B A xs) (f : Fr S w w') (hS : ∀ ad, A = some ad → ¬ S ad.block) : Rd w' B A xs := fun j u hu => by
  obtain ⟨ad, e, hb, hc⟩ := h j u hu
  exact ⟨ad, e, hb, f.cell hc (by rw [block_of_add]; exact hS ad e)⟩
theorem own_at {A : Option Addr} {n c : Nat} {ad : Addr} (h : A = some ad) (h0 : ad.spot = none ∧ ad.off = 0) : (Value.slice A n c).ownBlock = some ad.block := by subst h; rfl
theorem Own.rdAt {w : World} {base e n : Nat} {v : Value} {xs : List Value} {g : Nat} (h : Own w base e 1 v n xs) (hg : v.ownBlock = some g) : Rd w w.heap.size (some ⟨g, 0, none⟩) xs := by
  obtain ⟨A, c, rfl, _, _, _, hr, _⟩ := h.form
  rcases h.mem with ⟨rfl, _⟩ | ⟨g', rfl, e⟩
  · simp [Value.ownBlock] at hg
  · have : g' = g := Option.some.inj (e.symm.trans hg)
    subst this
    exact hr

theorem apart_step {wi wr w' : World} {o : Obj} {M e nn : Nat} {Ai : Option Addr} {V l v' : Value} {xs ys : List Value} (hM : M ≤ wi.heap.size)
    (LT : ∀ k, V.ownBlock = some k → k < M) (AI : Ai = none ∧ xs = [] ∨ ∃ g, Ai = some ⟨g, 0, none⟩ ∧ V.ownBlock = some g)
    (I2 : l.ownBlock = V.ownBlock ∨ ∀ g, l.ownBlock = some g → wi.heap.size ≤ g) (I3 : Rd wr M Ai xs) (I4 : Fr (fun k => V.ownBlock = some k) wi wr)
    (ho : Own w' 0 e 1 v' nn (xs ++ ys)) (hat : (v'.ownBlock = l.ownBlock ∧ Fr (fun k => l.ownBlock = some k) (wr.alloc o) w') ∨ (v'.ownBlock = some (wr.alloc o).heap.size ∧ Fr No (wr.alloc o) w')) :
    (v'.ownBlock = V.ownBlock ∨ ∀ g, v'.ownBlock = some g → wi.heap.size ≤ g) ∧ Rd w' M Ai xs ∧ Fr (fun k => V.ownBlock = some k) wi w' := by
  have h4 := I4.alloc o
  have h3 : Rd (wr.alloc o) M Ai xs := I3.fr0 ((Fr.refl No wr).alloc o)
  have hs := I4.size
  rcases hat with ⟨he, hf⟩ | ⟨he, hf⟩
  · refine ⟨by rw [he]; exact I2, ?_, ?_⟩
    · rcases AI with ⟨_, rfl⟩ | ⟨g, hA, hV⟩
      · exact Rd.nil _ _ _
      · rcases I2 with h2 | h2
        · have hr := (ho.rdAt (he.trans (h2.trans hV))).tk xs.length
          rw [List.take_left] at hr
          intro j u hu
          obtain ⟨ad, e1, hb, _⟩ := I3 j u hu
          obtain ⟨ad', e2, _, hc⟩ := hr j u hu
          rw [hA] at e1
          have e3 : ad' = ad := Option.some.inj (e2.symm.trans e1)
          subst e3
          exact ⟨ad', hA.trans e1, hb, hc⟩
        · refine h3.fr2 hf ?_
          intro ad had hl
          have := h2 _ hl
          rw [hA] at had
          have e3 := Option.some.inj had
          have := LT g hV
          rw [← e3] at hl
          have := h2 _ hl
          simp at this
          omega
    · refine h4.trans hf ?_
      intro i hi hl
      rcases I2 with h2 | h2
      · exact h2.symm.trans hl
      · have := h2 i hl
        omega
  · refine ⟨.inr ?_, h3.fr0 hf, h4.tr hf⟩
    intro g hg
    have := Option.some.inj (he.symm.trans hg)
    simp at this
    omega
def updV (L : Nat → Value) (i : Nat) (l : Value) : Nat → Value := fun j => if j = i then l else L j
theorem updV_same (L : Nat → Value) (i : Nat) (l : Value) : updV L i l i = l := if_pos rfl
theorem updV_other (L : Nat → Value) {i j : Nat} (l : Value) (h : j ≠ i) : updV L i l j = L j := if_neg h
theorem map_snoc {L : Nat → Value} {i : Nat} (l : Value) : (List.range i).map L ++ [l] = (List.range (i + 1)).map (updV L i l) := by
  rw [List.range_succ, List.map_append]
  congr 1
  · apply List.map_congr_left
    intro j hj
    have : j < i := by simpa using hj
    rw [updV_other _ _ (by omega)]
  · simp [updV_same]
theorem take_snoc_at {y : List Value} {k : Nat} {v : Value} (hy : y[k]? = some v) : y.take k ++ [v] = y.take (k + 1) := by
  obtain ⟨hl, rfl⟩ := List.getElem?_eq_some_iff.1 hy
  rw [List.take_succ_eq_append_getElem hl]

section
variable (q m d : Nat) (A : Nat → Option Addr) (N C : Nat → Nat) (cs : Array Value) (W : World)

set_option maxRecDepth 100000 in
set_option maxHeartbeats 3200000 in
theorem apart8_any (base : Nat) (Z : Nat → List Value) (hm : m ≤ 100000) (hN : ∀ j, j < m → N j ≤ 140737488350000) (hd : m ≤ d) (hd2 : d ≤ maxLen) (hq : W.heap[q]? = some (.cells cs 24 (0, 0))) (hcs : ∀ j, j < m → cs[j]? = some (.slice (A j) (N j) (C j)))
    (ho : Owns W base 5 m A N C Z) (ha : Apart m A N C) :
    Calls Try.prog 24 #[.slice (some ⟨q, 0, none⟩) m d] W (fun en w' => en = .returned (.bool true) ∧ Fr (Blocks m A N C) W w') := by
  unfold maxLen at hd2
  have HO := hide ho
  have HQ := hide hq
  have HCS := hide hcs
  have HN := hide hN
  have HA := hide ha
  clear ho hq hcs hN ha
  go_enter Try.func24, Try.ntmps24
  go_wp2
  go_loopw [3, 4] (fun i _ wr => ∃ (i' : Nat) (Z' : Nat → List Value), i' ≤ m ∧ i = .int .i64 i' ∧ Hid (Owns wr base 5 m A N C Z') ∧ Hid (∀ j, j < i' → Z' j = mk1 j (N j)) ∧ Hid (Fr (Blocks m A N C) W wr) ∧ Hid (wr.heap[q]? = some (.cells cs 24 (0, 0)))) (fun i _ _ => m - (intOf i).toNat)
  case atStart => exact ⟨0, Z, by omega, rfl, HO, hide (fun j h => by omega), hide (Fr.refl _ _), HQ⟩
  case round =>
    obtain ⟨i, Z1, hi, rfl, O1, M1, F1, Q1⟩ := hrel
    obtain ⟨wo, rfl⟩ : ∃ wo : World, wo = wr := ⟨_, rfl⟩
    by_cases hlt : i < m
    · have hNi := HN.out i hlt
      have HCI := hide (HCS.out i hlt)
      go_wp2
      go_loopw [4] (fun k' wr => ∃ (k : Nat) (Z' : Nat → List Value), k ≤ N i ∧ k' = .int .i64 k ∧ Hid (Owns wr base 5 m A N C Z') ∧ Hid (∀ j, j < i → Z' j = mk1 j (N j)) ∧ Hid ((Z' i).take k = (mk1 i (N i)).take k) ∧ Hid (Fr (Blocks m A N C) W wr) ∧ Hid (wr.heap[q]? = some (.cells cs 24 (0, 0)))) (fun k' _ => N i - (intOf k').toNat)
      case atStart => exact ⟨0, Z1, by omega, rfl, O1, M1, hide rfl, F1, Q1⟩
      case round =>
        obtain ⟨k, Z2, hk, rfl, O2, M2, T2, F2, Q2⟩ := hrel
        have hci := cell_of_row wr q i cs 24 (0, 0) Q2.out
        rw [HCI.out] at hci
        by_cases hkl : k < N i
        · obtain ⟨g, hAi, hgl, hcell, hfz, hne, hst⟩ := O2.out.store HA.out hlt hkl
          rw [hAi] at hci
          have HST := hide hst
          have HNE := hide (hne q cs _ _ Q2.out (by decide))
          clear hst hne
          obtain ⟨u0, hu0⟩ : ∃ u, (Z2 i)[k]? = some u := ⟨_, List.getElem?_eq_getElem (by have := (O2.out i hlt).1; omega)⟩
          rw [hu0] at hcell
          have HAi := hide hAi
          have HT := hide (take_set_snoc T2.out (mk1_at hkl) (by have := (O2.out i hlt).1; omega))
          clear hAi hu0
          go_wp2
          go_roundw
          case rel => exact ⟨k + 1, _, by omega, by go_num, hide (HST.out _).1, hide (fun j hj => by rw [upd_other _ _ (by omega)]; exact M2.out j hj), hide (by rw [upd_same]; exact HT.out), hide (F2.out.ts (HST.out _).2), hide ((Fr.refl (Is g) wr).setCell (p := ⟨g, k, none⟩) (fun _ => rfl) _ |>.blk Q2.out (fun e => HNE.out e.symm))⟩
          case measure => simp [intOf]; omega
        · have hkN : k = N i := by omega
          go_wp2
          go_roundw
          case rel =>
            refine ⟨i + 1, Z2, by omega, by go_num, O2, hide (fun j hj => ?_), F2, Q2⟩
            by_cases hji : j = i
            · subst hji
              have h := T2.out
              rwa [List.take_of_length_le (by have := (O2.out j hlt).1; omega), List.take_of_length_le (by rw [mk1_len]; omega)] at h
            · exact M2.out j (by omega)
          case measure => simp [intOf]; omega
    · have O2 : Hid (∀ j, j < m → Own wo 0 5 1 (.slice (A j) (N j) (C j)) (N j) (mk1 j (N j))) := fun j hj => by
        have h := O1.out j hj
        rw [M1.out j (by omega)] at h
        exact h.lower (Nat.zero_le _)
      have LT : Hid (∀ j, j < m → ∀ k, (Value.slice (A j) (N j) (C j)).ownBlock = some k → k < W.heap.size) := fun j hj k hk => ((HO.out j hj).lt k hk).2
      have QW : Hid (q < W.heap.size) := (Array.getElem?_eq_some_iff.1 HQ.out).1
      have QN : Hid (∀ j, j < m → (Value.slice (A j) (N j) (C j)).ownBlock ≠ some q) := fun j hj hk => (HO.out j hj).ne_blk hk HQ.out (by decide)
      have hW := F1.out.size
      obtain ⟨i1, hi1, hz1, hs1, hb1⟩ := info_parts Try.info8
      obtain ⟨i2, hi2, hz2, hs2, hb2⟩ := info_parts Try.infoS8
      clear O1 M1 HO HQ
      go_wp2
      go_loopw [5, 6, 7, 8] (fun more i' _ _ wr => ∃ (i : Nat) (L : Nat → Value), i ≤ m ∧ i' = .int .i64 i ∧ Hid (Own wr W.heap.size 24 1 more i ((List.range i).map L))
          ∧ Hid (∀ j, i ≤ j → j < m → Own wr 0 5 1 (.slice (A j) (N j) (C j)) (N j) (mk1 j (N j)))
          ∧ Hid (∀ j, j < m → Rd wr W.heap.size (A j) (mk1 j (N j)))
          ∧ Hid (∀ j, j < i → Own wr 0 5 1 (L j) (N j + 70) (mk1 j (N j) ++ mk2 j))
          ∧ Hid (∀ j, j < i → ∀ j', i ≤ j' → j' < m → ∀ k, (Value.slice (A j') (N j') (C j')).ownBlock = some k → (L j).ownBlock ≠ some k)
          ∧ Hid (Fr (Blocks m A N C) W wr) ∧ Hid (wr.heap[q]? = some (.cells cs 24 (0, 0)))) (fun _ i _ _ _ => m - (intOf i).toNat)
      case atStart =>
        refine ⟨0, fun _ => undef, by omega, rfl, hide (Own.nil _ _ _ _), hide (fun j _ hj => O2.out j hj), hide (fun j hj => ?_), hide (fun j hj => by omega), hide (fun j hj => by omega), F1, Q1⟩
        have h := (O2.out j hj).rd
        intro x u hu
        obtain ⟨ad, e, hb, hc⟩ := h x u hu
        exact ⟨ad, e, LT.out j hj _ (by rw [e]; rfl), hc⟩
      case round =>
        obtain ⟨i, L, hi, rfl, OM, OV, RV, OL, DL, FW, QQ⟩ := hrel
        obtain ⟨wi, rfl⟩ : ∃ wi : World, wi = wr := ⟨_, rfl⟩
        clear hlt
        by_cases hlt : i < m
        · have hNi := HN.out i hlt
          have hci := cell_of_row wi q i cs 24 (0, 0) QQ.out
          rw [HCS.out i hlt] at hci
          have hWi := FW.out.size
          have AI := hide (OV.out i (Nat.le_refl _) hlt).mem
          go_wp2
          go_loopw [7, 8] (fun l k' wr => ∃ (k : Nat), k ≤ 70 ∧ k' = .int .i64 k ∧ Hid (Own wr 0 5 1 l (N i + k) (mk1 i (N i) ++ (mk2 i).take k))
              ∧ Hid (l.ownBlock = (Value.slice (A i) (N i) (C i)).ownBlock ∨ ∀ g, l.ownBlock = some g → wi.heap.size ≤ g)
              ∧ Hid (Rd wr W.heap.size (A i) (mk1 i (N i))) ∧ Hid (Fr (fun k => (Value.slice (A i) (N i) (C i)).ownBlock = some k) wi wr)) (fun _ k' _ => 70 - (intOf k').toNat)
          case atStart => exact ⟨0, by omega, rfl, hide (by simpa using OV.out i (Nat.le_refl _) hlt), hide (.inl rfl), hide (RV.out i hlt), hide (Fr.refl _ _)⟩
          case round =>
            obtain ⟨k, hk, rfl, I1, I2, I3, I4⟩ := hrel
            by_cases hkl : k < 70
            · have HS := hide (Src.one (P := Try.prog) wr (e := 5) Try.underlying24 (.int .u8 ((11 * (i : Int) + (k : Int)) % 256)) rfl)
              have I1' := hide (I1.out.fr0 ((Fr.refl No wr).alloc (.cells #[.int .u8 ((11 * (i : Int) + (k : Int)) % 256)] 5)))
              have b1 : (N i + k + 1) * 1 ≤ 140737488355328 := by omega
              have b2 : N i + k + 1 ≤ maxLen := by unfold maxLen; omega
              go_wp2_with (at_builtin; refine wpList_append_two _ rfl (.tmp 53) (.tmp 59) 24 24 rfl 0 5 i1 (.int .u8 0) 1 1 Try.underlying24 hi1 hz1 hs1 hb1 rfl u7 (N i + k) _ rfl I1'.out _ 1 [.int .u8 ((11 * (i : Int) + (k : Int)) % 256)] rfl HS.out b1 b2 (Nat.zero_le _) ?_; intro v' w' hown hat; have ON := hide hown; have HAT := hide hat; clear hown hat)
              go_roundw
              case rel =>
                have h5 := ON.out
                rw [List.append_assoc, take_snoc_at (mk2_at hkl)] at h5
                have h6 := apart_step hWi (LT.out i hlt) (by
                  rcases AI.out with ⟨h, h0⟩ | h
                  · exact .inl ⟨h, by rw [h0]; rfl⟩
                  · exact .inr h) I2.out I3.out I4.out h5 HAT.out
                exact ⟨k + 1, by omega, by go_num, hide h5, hide h6.1, hide h6.2.1, hide h6.2.2⟩
              case measure => simp [intOf]; omega
            · obtain rfl : k = 70 := by omega
              obtain ⟨Al, cl, rfl, hl1, hl2, _⟩ := I1.out.form
              have HS := hide (Src.one (P := Try.prog) wr (e := 24) Try.underlying49 (.slice Al (N i + 70) cl) rfl)
              have FO : Hid (Fr (fun k => (Value.slice (A i) (N i) (C i)).ownBlock = some k) wi (wr.alloc (.cells #[.slice Al (N i + 70) cl] 24))) := I4.out.alloc _
              have OM' : Hid (Own (wr.alloc (.cells #[.slice Al (N i + 70) cl] 24)) W.heap.size 24 1 u5 i ((List.range i).map L)) := OM.out.fr FO.out (fun g hg hk => by
                have := (OM.out.lt g hg).1
                have := LT.out i hlt g hk
                omega)
              have b1 : (i + 1) * 24 ≤ 140737488355328 := by omega
              have b2 : i + 1 ≤ maxLen := by unfold maxLen; omega
              have b3 : W.heap.size ≤ (wr.alloc (.cells #[.slice Al (N i + 70) cl] 24)).heap.size := Nat.le_trans hWi FO.out.size
              go_wp2_with (at_builtin; refine wpList_append_gen _ rfl (.tmp 61) (.tmp 63) 49 49 rfl W.heap.size 24 i2 (.slice none 0 0) 1 24 Try.underlying49 hi2 hz2 hs2 hb2 rfl u5 i _ rfl OM'.out _ 1 [.slice Al (N i + 70) cl] rfl HS.out b1 b2 b3 ?_; intro v' w' hown hfr hat; have ON := hide hown; have FN := hide hfr; clear hown hfr hat)
              go_roundw
              case rel =>
                have hmw : ∀ g, u5.ownBlock = some g → W.heap.size ≤ g := fun g hg => (OM'.out.lt g hg).1
                have hl : Own (wr.alloc (.cells #[.slice Al (N i + 70) cl] 24)) 0 5 1 (.slice Al (N i + 70) cl) (N i + 70) (mk1 i (N i) ++ mk2 i) := by
                  have h := I1.out
                  rw [List.take_of_length_le (by rw [mk2_len]; omega)] at h
                  exact h.fr0 ((Fr.refl No wr).alloc _)
                refine ⟨i + 1, updV L i (.slice Al (N i + 70) cl), by omega, by go_num, hide (by rw [← map_snoc]; exact ON.out), hide ?_, hide ?_, hide ?_, hide ?_, hide ?_, hide ?_⟩
                · intro j hij hj
                  refine ((OV.out j (by omega) hj).fr FO.out ?_).fr FN.out ?_
                  · intro g hg hk
                    exact HA.out.dis i j hlt hj (by omega) g hk hg
                  · intro g hg hk
                    have := LT.out j hj g hg
                    have := hmw g hk
                    omega
                · intro j hj
                  have h1 : Rd (wr.alloc (.cells #[.slice Al (N i + 70) cl] 24)) W.heap.size (A j) (mk1 j (N j)) := by
                    by_cases hji : j = i
                    · subst hji
                      exact I3.out.fr0 ((Fr.refl No wr).alloc _)
                    · refine (RV.out j hj).fr2 FO.out ?_
                      intro ad had hk
                      exact HA.out.dis i j hlt hj (fun e => hji e.symm) _ hk (by rw [had]; rfl)
                  refine h1.fr2 FN.out ?_
                  intro ad had hk
                  have := LT.out j hj ad.block (by rw [had]; rfl)
                  have := hmw _ hk
                  omega
                · intro j hj
                  by_cases hji : j = i
                  · subst hji
                    rw [updV_same]
                    exact hl.fr FN.out (fun g hg hk => hl.ne_own OM'.out (by decide) hk hg)
                  · rw [updV_other _ _ hji]
                    have h1 := (OL.out j (by omega)).fr FO.out (fun g hg hk => DL.out j (by omega) i (Nat.le_refl _) hlt g hk hg)
                    exact h1.fr FN.out (fun g hg hk => h1.ne_own OM'.out (by decide) hk hg)
                · intro j hj j' hij hj' k hk
                  by_cases hji : j = i
                  · subst hji
                    rw [updV_same]
                    rcases I2.out with h2 | h2
                    · rw [h2]
                      exact fun h => HA.out.dis j j' hlt hj' (by omega) k h hk
                    · intro h
                      have := h2 k h
                      have := LT.out j' hj' k hk
                      omega
                  · rw [updV_other _ _ hji]
                    exact DL.out j (by omega) j' (by omega) hj' k hk
                · refine (FW.out.trans FO.out (fun k _ hk => ⟨i, hlt, hk⟩)).trans FN.out ?_
                  intro k hk h
                  have := hmw k h
                  omega
                · refine FN.out.blk (FO.out.blk QQ.out (QN.out i hlt)) ?_
                  intro h
                  have := hmw q h
                  have := QW.out
                  omega
              case measure => simp [intOf]; omega
        · obtain rfl : m = i := by omega
          clear DL OV hW LT QW QN
          obtain ⟨AM, cM, rfl, hM1, hM2, _, hMR, _⟩ := OM.out.form
          unfold maxLen at hM2
          have MR := hide hMR
          clear hMR OM
          go_wp2
          go_loop [9, 10, 11, 12] (fun i' _ _ _ => ∃ i : Nat, i ≤ m ∧ i' = .int .i64 i) (fun i' _ _ _ => m - (intOf i').toNat)
          case atStart => exact ⟨0, by omega, rfl⟩
          case round =>
            obtain ⟨i, hi2', rfl⟩ := hrel
            clear hlt
            by_cases hlt : i < m
            · have hNi := HN.out i hlt
              have hci := cell_of_row wi q i cs 24 (0, 0) QQ.out
              rw [HCS.out i hlt] at hci
              obtain ⟨Al, cl, hLi, hl1, hl2, _, hLR, _⟩ := (OL.out i hlt).form
              unfold maxLen at hl2
              obtain ⟨am, rfl, _, hmc⟩ := MR.out i (L i) (by simp [List.getElem?_range hlt])
              rw [hLi] at hmc
              have LR := hide hLR
              clear hLR hLi
              go_wp2
              go_loop [11] (fun k' => ∃ k : Nat, k ≤ N i ∧ k' = .int .i64 k) (fun k' => N i - (intOf k').toNat)
              case atStart => exact ⟨0, by omega, rfl⟩
              case round =>
                obtain ⟨k, hk, rfl⟩ := hrel
                by_cases hkl : k < N i
                · obtain ⟨ad, hAi, _, hc1⟩ := RV.out i hlt k _ (mk1_at hkl)
                  obtain ⟨bd, rfl, _, hc2⟩ := LR.out k (.int .u8 ((37 * (i : Int) + (k : Int)) % 256)) (by rw [List.getElem?_append_left (by rw [mk1_len]; exact hkl)]; exact mk1_at hkl)
                  rw [hAi] at hci
                  have hb : ((37 * (i : Int) + (k : Int)) % 256 != (37 * (i : Int) + (k : Int)) % 256) = false := by simp
                  clear hAi
                  go_wp2
                  go_round
                  case rel => exact ⟨k + 1, by omega, by go_num⟩
                  case measure => simp [intOf]; omega
                · go_wp2
                  go_loop [12] (fun k' => ∃ k : Nat, k ≤ 70 ∧ k' = .int .i64 k) (fun k' => 70 - (intOf k').toNat)
                  case atStart => exact ⟨0, by omega, rfl⟩
                  case round =>
                    clear hkl hk
                    obtain ⟨k, hk, rfl⟩ := hrel
                    by_cases hkl : k < 70
                    · obtain ⟨bd, rfl, _, hc2⟩ := LR.out (N i + k) (.int .u8 ((11 * (i : Int) + (k : Int)) % 256)) (by
                        rw [List.getElem?_append_right (by rw [mk1_len]; omega), mk1_len, Nat.add_sub_cancel_left]
                        exact mk2_at hkl)
                      have hb : ((11 * (i : Int) + (k : Int)) % 256 != (11 * (i : Int) + (k : Int)) % 256) = false := by simp
                      have t1 : ((N i : Int) + (k : Int)).toNat = N i + k := by omega
                      go_wp2
                      go_round
                      case rel => exact ⟨k + 1, by omega, by go_num⟩
                      case measure => simp [intOf]; omega
                    · go_wp2
                      go_round
                      case rel => exact ⟨i + 1, by omega, by go_num⟩
                      case measure => simp [intOf]; omega
            · go_wp2
              go_ret
              exact ⟨rfl, FW.out⟩
end
end Go.Proofs.Ytcdhbdhhknlbaaa
namespace Go.Proofs.Ytcdhbdhhknlbaaa
set_option linter.unusedVariables false
set_option linter.unusedSimpArgs false
open Go.RowKit

theorem Fr.setRow (w : World) (g : Nat) (cs : Array Value) : Fr (Is g) w (w.setRow g cs) :=
  ⟨rfl, rfl, rfl, by simp, fun k _ hk => setRow_other w g k _ hk⟩

/-- lists of bytes that are read. -/
def BSl (w : World) (B : Nat) (A : Option Addr) (bss : List (List UInt8)) : Prop :=
  ∀ j bs, bss[j]? = some bs → ∃ ad Aj cj, A = some ad ∧ ad.block < B ∧ w.cell? (ad.add j) = some (.slice Aj bs.length cj) ∧ bs.length ≤ cj ∧ cj ≤ maxLen ∧ Rd w B Aj (by8 bs)
theorem BSl.fr {S : Nat → Prop} {w w' : World} {B : Nat} {A : Option Addr} {bss : List (List UInt8)} (h : BSl w B A bss) (f : Fr S w w') (hS : ∀ k, k < B → ¬ S k) : BSl w' B A bss := fun j bs hj => by
  obtain ⟨ad, Aj, cj, e, hb, hc, h1, h2, hr⟩ := h j bs hj
  exact ⟨ad, Aj, cj, e, hb, f.cell hc (by rw [block_of_add]; exact hS _ hb), h1, h2, hr.fr f hS⟩
theorem BSl.fr0 {w w' : World} {B : Nat} {A : Option Addr} {bss : List (List UInt8)} (h : BSl w B A bss) (f : Fr No w w') : BSl w' B A bss := h.fr f (fun _ _ h => h)
theorem BSl.more {w : World} {B B' : Nat} {A : Option Addr} {bss : List (List UInt8)} (h : BSl w B A bss) (hB : B ≤ B') : BSl w B' A bss := fun j bs hj => by
  obtain ⟨ad, Aj, cj, e, hb, hc, h1, h2, hr⟩ := h j bs hj
  exact ⟨ad, Aj, cj, e, by omega, hc, h1, h2, hr.more hB⟩

theorem BSl.single {w : World} {B n c : Nat} {A : Option Addr} {bs : List UInt8} {e : TypeId} (hn : bs.length = n) (h1 : n ≤ c) (h2 : c ≤ maxLen) (hr : Rd w B A (by8 bs)) (hB : B ≤ w.heap.size) : BSl (w.alloc (.cells #[.slice A n c] e)) (w.heap.size + 1) (some ⟨w.heap.size, 0, none⟩) [bs] := by
  subst hn
  intro j bs' hj
  cases j with
  | zero =>
    injection hj with hj
    subst hj
    refine ⟨_, A, c, rfl, by simp, ?_, h1, h2, (hr.fr0 ((Fr.refl _ _).alloc _)).more (by omega)⟩
    rw [Addr.add_lit, cell_of_row _ w.heap.size (0 + 0) #[.slice A bs.length c] e (0, 0) (heap_alloc_new w _)]
    rfl
  | succ j => simp at hj

end Go.Proofs.Ytcdhbdhhknlbaaa
