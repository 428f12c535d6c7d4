/- Several texts in one: Mem, CodecPlain, CodecLaw, RefA, BkP. -/
import Derived.Test.YtpopbkcbplmcaaaGreatChecked
import Derived.WalkKit
import Derived.WalkSpells
import Derived.WalkLawsBesides
import Derived.Outline
import Derived.Lib.Hide
import Derived.Deep.AppendSrc
import Derived.Deep.AppendLies
import Derived.Deep.Draws
import Derived.Deep.QuietTactic
import Derived.BigQuiet
import Derived.IntWalk
import Derived.Laws.BitsAllLaws
namespace Go.Proofs.YtpopbkcbplmcaaaGreat
set_option linter.unusedVariables false
set_option linter.unusedSimpArgs false
open Go.RowKit

theorem block_of_add (a : Addr) (n : Nat) : (a.add n).block = a.block := by unfold Addr.add; split <;> rfl
theorem add_of_add (a : Addr) (i j : Nat) : (a.add i).add j = a.add (i + j) := by
  unfold Addr.add
  by_cases hi : i = 0 <;> by_cases hj : j = 0 <;> simp [hi, hj, Nat.add_assoc]
theorem hide {p : Prop} (h : p) : Hid p := h

/-! Frames: only blocks of S may have changed. -/
structure Fr (S : Nat → Prop) (w w' : World) : Prop where
  os : w'.os = w.os
  tape : w'.tape = w.tape
  output : w'.output = w.output
  size : w.heap.size ≤ w'.heap.size
  block : ∀ k, k < w.heap.size → ¬ S k → w'.heap[k]? = w.heap[k]?
def No : Nat → Prop := fun _ => False
def Is (g : Nat) : Nat → Prop := fun k => k = g

section
variable {S T : Nat → Prop} {a b c w w' : World}
theorem Fr.refl (S : Nat → Prop) (w : World) : Fr S w w := ⟨rfl, rfl, rfl, Nat.le_refl _, fun _ _ _ => rfl⟩
theorem Fr.trans (h : Fr S a b) (k : Fr T b c) (hT : ∀ i, i < a.heap.size → T i → S i) : Fr S a c :=
  ⟨k.os.trans h.os, k.tape.trans h.tape, k.output.trans h.output, Nat.le_trans h.size k.size, fun i hi hS => (k.block i (Nat.lt_of_lt_of_le hi h.size) (fun ht => hS (hT i hi ht))).trans (h.block i hi hS)⟩
theorem Fr.tr (h : Fr S a b) (k : Fr No b c) : Fr S a c := h.trans k (fun _ _ h => h.elim)
theorem Fr.ts (h : Fr S a b) (k : Fr S b c) : Fr S a c := h.trans k (fun _ _ h => h)
theorem Fr.mono (h : Fr S a b) (hS : ∀ i, i < a.heap.size → S i → T i) : Fr T a b := ⟨h.os, h.tape, h.output, h.size, fun i hi ht => h.block i hi (fun hs => ht (hS i hi hs))⟩
theorem Fr.any (h : Fr No a b) (T : Nat → Prop) : Fr T a b := h.mono (fun _ _ h => h.elim)
theorem Fr.drew (h : Fr S a w) : Fr S a w.drew := ⟨h.os, h.tape, h.output, h.size, h.block⟩
theorem Fr.drewN (h : Fr S a w) (n : Nat) : Fr S a (w.drewN n) := ⟨h.os, h.tape, h.output, h.size, h.block⟩
theorem Fr.of_drewN {n : Nat} (h : Fr S (a.drewN n) w) : Fr S a w := ⟨h.os, h.tape, h.output, h.size, h.block⟩
theorem Fr.alloc (h : Fr S a w) (o : Obj) : Fr S a (w.alloc o) :=
  ⟨h.os, h.tape, h.output, Nat.le_trans h.size (by simp), fun i hi hne => (Below.heap_alloc w o i (Nat.lt_of_lt_of_le hi h.size)).trans (h.block i hi hne)⟩
theorem Fr.setCell (h : Fr S a w) {p : Addr} (hp : p.block < a.heap.size → S p.block) (u : Value) : Fr S a (w.setCell p u) :=
  ⟨h.os, h.tape, h.output, by simpa [World.setCell] using h.size, fun i hi hne => (Below.heap_setCell w p u i (by
    rintro rfl
    exact hne (hp hi))).trans (h.block i hi hne)⟩
theorem Fr.of_grown {row : Option Nat} (h : w.grownBy w' row) : Fr (fun k => row = some k) w w' := ⟨h.os, h.tape, h.output, h.size, fun i hi hne => h.block i hi (fun e => hne e.symm)⟩
theorem Fr.of_below (h : Below w.heap.size w w') : Fr No w w' := ⟨h.os, h.tape, h.output, h.size, fun i hi _ => h.block i hi⟩
theorem Fr.below (h : Fr No w w') : Below w.heap.size w w' := ⟨h.os, h.tape, h.output, h.size, fun i hi => h.block i hi (fun h => h)⟩
theorem Fr.belowN {B : Nat} (h : Fr S w w') (hB : B ≤ w.heap.size) (hS : ∀ k, k < B → ¬ S k) : Below B w w' := ⟨h.os, h.tape, h.output, h.size, fun i hi => h.block i (Nat.lt_of_lt_of_le hi hB) (hS i hi)⟩
theorem Fr.cell (h : Fr S w w') {p : Addr} {v : Value} (hc : w.cell? p = some v) (hS : ¬ S p.block) : w'.cell? p = some v :=
  (World.cell?_of_block (h.block p.block (World.block_lt_of_cell? w p hc) hS)).trans hc
theorem Fr.blk {k : Nat} {o : Obj} (h : Fr S w w') (hk : w.heap[k]? = some o) (hS : ¬ S k) : w'.heap[k]? = some o :=
  (h.block k (Array.getElem?_eq_some_iff.1 hk).1 hS).trans hk
end

theorem Fr.put {a w : World} {g : Nat} (h : Fr (Is g) a w) (i : Nat) (u : Value) : Fr (Is g) a (w.setCell ⟨g, i, none⟩ u) := h.setCell (p := ⟨g, i, none⟩) (fun _ => rfl) u
theorem Fr.own {S : Nat → Prop} {a b c : World} {v : Value} (h : Fr S a b) (k : Fr (fun k => v.ownBlock = some k) b c) (hv : ∀ g, v.ownBlock = some g → a.heap.size ≤ g ∨ S g) : Fr S a c :=
  h.trans k (fun i hi e => by
    rcases hv i e with h | h
    · omega
    · exact h)

/-! A slice that is read: the cells xs lie behind address A, in a block below B. -/
def Rd (w : World) (B : Nat) (A : Option Addr) (xs : List Value) : Prop :=
  ∀ j u, xs[j]? = some u → ∃ ad, A = some ad ∧ ad.block < B ∧ w.cell? (ad.add j) = some u
section
variable {w w' : World} {B B' : Nat} {A : Option Addr} {xs ys : List Value}
theorem Rd.nil (w : World) (B : Nat) (A : Option Addr) : Rd w B A [] := fun j u h => by simp at h
theorem Rd.more (h : Rd w B A xs) (hB : B ≤ B') : Rd w B' A xs := fun j u hu => by
  obtain ⟨ad, e, hb, hc⟩ := h j u hu
  exact ⟨ad, e, by omega, hc⟩
theorem Rd.fr {S : Nat → Prop} (h : Rd w B A xs) (f : Fr S w w') (hS : ∀ k, k < B → ¬ S k) : Rd w' B A xs := fun j u hu => by
  obtain ⟨ad, e, hb, hc⟩ := h j u hu
  exact ⟨ad, e, hb, f.cell hc (by rw [block_of_add]; exact hS _ hb)⟩
theorem Rd.fr0 (h : Rd w B A xs) (f : Fr No w w') : Rd w' B A xs := h.fr f (fun _ _ h => h)
theorem Rd.tk (h : Rd w B A xs) (k : Nat) : Rd w B A (xs.take k) := fun j u hu => by
  rw [List.getElem?_take] at hu
  split at hu
  · exact h j u hu
  · cases hu
theorem Rd.dr {ad : Addr} (h : Rd w B (some ad) xs) (k : Nat) : Rd w B (some (ad.add k)) (xs.drop k) := fun j u hu => by
  rw [List.getElem?_drop] at hu
  obtain ⟨ad', e, hb, hc⟩ := h _ u hu
  injection e with e
  subst e
  exact ⟨_, rfl, by rw [block_of_add]; exact hb, by rw [add_of_add]; exact hc⟩
theorem Rd.cut (h : Rd w B A xs) {k cap : Nat} (hk : xs.length ≤ cap) : Rd w B (if cap = k then A else A.map (·.add k)) (xs.drop k) := by
  split
  · subst k
    rw [List.drop_eq_nil_of_le hk]
    exact Rd.nil _ _ _
  · cases A with
    | none => intro j u hu; rw [List.getElem?_drop] at hu; obtain ⟨_, e, _⟩ := h _ u hu; cases e
    | some ad => exact h.dr k
end

/-! A slice of the call's own: nil, or at the head of a block from base on, with spare room c (in elements) at most what the block holds. -/
def Own (w : World) (base : Nat) (e : TypeId) (size : Nat) (v : Value) (n : Nat) (xs : List Value) : Prop :=
  xs.length = n * size ∧ ∃ A c, v = .slice A n c ∧ n ≤ c ∧ c ≤ maxLen ∧
    ((A = none ∧ c = 0) ∨ ∃ g cur, A = some ⟨g, 0, none⟩ ∧ base ≤ g ∧ w.heap[g]? = some (.cells cur e (0, 0)) ∧ c * size ≤ cur.size ∧ cur.toList.take (n * size) = xs)
section
variable {w w' : World} {base e size n : Nat} {v : Value} {xs : List Value}
theorem Own.nil (w : World) (base : Nat) (e : TypeId) (size : Nat) : Own w base e size (.slice none 0 0) 0 [] := ⟨by simp, none, 0, rfl, Nat.le_refl _, Nat.zero_le _, .inl ⟨rfl, rfl⟩⟩
theorem Own.fr {S : Nat → Prop} (h : Own w base e size v n xs) (f : Fr S w w') (hS : ∀ g, v.ownBlock = some g → ¬ S g) : Own w' base e size v n xs := by
  obtain ⟨hl, A, c, rfl, hc, hm, hA⟩ := h
  refine ⟨hl, A, c, rfl, hc, hm, ?_⟩
  rcases hA with hA | ⟨g, cur, rfl, hb, hh, hcs, ht⟩
  · exact .inl hA
  · exact .inr ⟨g, cur, rfl, hb, f.blk hh (hS g rfl), hcs, ht⟩
theorem Own.fr0 (h : Own w base e size v n xs) (f : Fr No w w') : Own w' base e size v n xs := h.fr f (fun _ _ h => h)
theorem Own.lower {b2 : Nat} (h : Own w base e size v n xs) (hb : b2 ≤ base) : Own w b2 e size v n xs := by
  obtain ⟨hl, A, c, rfl, hc, hm, hA⟩ := h
  refine ⟨hl, A, c, rfl, hc, hm, ?_⟩
  rcases hA with hA | ⟨g, cur, rfl, hg, r⟩
  · exact .inl hA
  · exact .inr ⟨g, cur, rfl, Nat.le_trans hb hg, r⟩
theorem Own.lt (h : Own w base e size v n xs) : ∀ k, v.ownBlock = some k → base ≤ k ∧ k < w.heap.size := by
  intro k hk
  obtain ⟨hl, A, c, rfl, hc, hm, hA⟩ := h
  rcases hA with ⟨rfl, _⟩ | ⟨g, cur, rfl, hb, hg, _⟩
  · simp [Value.ownBlock] at hk
  · simp [Value.ownBlock] at hk
    subst hk
    exact ⟨hb, (Array.getElem?_eq_some_iff.1 hg).1⟩
theorem Own.ne_blk {g : Nat} {cs : Array Value} {t : TypeId} {fz : Nat × Nat} (h : Own w base e size v n xs) (hv : v.ownBlock = some g) (hg : w.heap[g]? = some (.cells cs t fz)) (hne : e ≠ t) : False := by
  obtain ⟨hl, A, c, rfl, hc, hm, hA⟩ := h
  rcases hA with ⟨rfl, _⟩ | ⟨g', cur, rfl, hb, hh, _⟩
  · simp [Value.ownBlock] at hv
  · have e1 : g' = g := Option.some.inj hv
    subst e1
    rw [hh] at hg
    injection hg with hg
    injection hg with _ ht
    exact hne ht
/-- The form of such a value, and its cells. -/
theorem Own.form (h : Own w base e size v n xs) : ∃ A c, v = .slice A n c ∧ n ≤ c ∧ c ≤ maxLen ∧ (A = none → c = 0) ∧ Rd w w.heap.size A xs ∧ (∀ ad, A = some ad → base ≤ ad.block) := by
  obtain ⟨hl, A, c, rfl, hc, hm, hA⟩ := h
  refine ⟨A, c, rfl, hc, hm, ?_, ?_, ?_⟩
  · rcases hA with ⟨_, h0⟩ | ⟨g, cur, rfl, _⟩
    · exact fun _ => h0
    · exact fun h => by cases h
  · intro j u hu
    rcases hA with ⟨rfl, rfl⟩ | ⟨g, cur, rfl, hb, hh, hcs, ht⟩
    · have : n = 0 := by omega
      subst this
      have : xs = [] := List.eq_nil_of_length_eq_zero (by simpa using hl)
      subst this
      simp at hu
    · refine ⟨_, rfl, (Array.getElem?_eq_some_iff.1 hh).1, ?_⟩
      rw [Addr.add_lit, Nat.zero_add, cell_of_row w g j cur e (0, 0) hh]
      rw [← ht, List.getElem?_take] at hu
      split at hu
      · simpa using hu
      · cases hu
  · intro ad had
    rcases hA with ⟨rfl, rfl⟩ | ⟨g, cur, rfl, hb, _⟩
    · cases had
    · injection had with had; subst had; exact hb
theorem Own.rd {A : Option Addr} {c : Nat} (h : Own w base e size (.slice A n c) n xs) : Rd w w.heap.size A xs := by
  obtain ⟨A', c', hv, _, _, _, hr, _⟩ := h.form
  injection hv with h1 h2 h3
  subst h1
  exact hr
/-- A cut at the end, with or without its spare room: 's[:k]', 's[:k:k]'. -/
theorem Own.cut {A : Option Addr} {c k c' : Nat} (h : Own w base e size (.slice A n c) n xs) (hk : k ≤ c') (hc : c' ≤ c) (hkn : k ≤ n) : Own w base e size (.slice A k c') k (xs.take (k * size)) := by
  obtain ⟨hl, A', c'', hv, hn, hm, hA⟩ := h
  injection hv with h1 h2 h3
  subst h1; subst h3
  have hks : k * size ≤ n * size := Nat.mul_le_mul_right _ hkn
  refine ⟨by rw [List.length_take, hl]; omega, A, c', rfl, hk, by omega, ?_⟩
  rcases hA with ⟨rfl, rfl⟩ | ⟨g, cur, rfl, hb, hh, hcs, ht⟩
  · exact .inl ⟨rfl, by omega⟩
  · have h4 : c' * size ≤ c * size := Nat.mul_le_mul_right _ hc
    refine .inr ⟨g, cur, rfl, hb, hh, by omega, ?_⟩
    rw [← ht, List.take_take, Nat.min_eq_left hks]
theorem Own.le {A : Option Addr} {c m : Nat} (h : Own w base e size (.slice A m c) n xs) : m = n ∧ n ≤ c ∧ c ≤ maxLen := by
  obtain ⟨_, A', c', hv, h1, h2, _⟩ := h
  injection hv with a1 a2 a3
  subst a3
  exact ⟨a2, h1, h2⟩
theorem Own.clip {A : Option Addr} {c : Nat} (h : Own w base e size (.slice A n c) n xs) : Own w base e size (.slice A n n) n xs := by
  have h1 := h.cut (k := n) (c' := n) (Nat.le_refl _) h.le.2.1 (Nat.le_refl _)
  rwa [List.take_of_length_le (Nat.le_of_eq h.1)] at h1
end

section
variable {P : Program} (w : World)
/-- append onto a slice of the call's own, from whatever source. -/
theorem run_append_gen (base : Nat) (t tx ty e : TypeId) (i : TypeInfo) (z : Value) (size bytes : Nat) (ht : P.underlying t = some (.slice e)) (hi : P.info? e = some i) (hz : i.zero = some z)
    (hsize : i.size = size) (hby : i.bytes = bytes) (hzs : z.cells.size = size)
    (v : Value) (n : Nat) (xs : List Value) (hown : Own w base e size v n xs) (x : Value) (m : Nat) (news : List Value) (hs : Src P size tx x m news w)
    (hbytes : (n + m) * bytes ≤ 140737488355328) (h63 : n + m ≤ maxLen) (hbase : base ≤ w.heap.size) :
    ∃ v' w', (Builtin.append_ #[t, tx] ty #[v, x]).run P w = .ok v' w' ∧ Own w' base e size v' (n + m) (xs ++ news) ∧ Fr (fun k => v.ownBlock = some k) w w' ∧
      (v'.ownBlock = v.ownBlock ∨ v'.ownBlock = some w.heap.size) := by
  subst hsize
  subst hby
  have hlen : (xs ++ news).length = (n + m) * i.size := by rw [List.length_append, hown.1, hs.newsLen, Nat.add_mul]
  have h63' : n + m ≤ 9223372036854775807 := by simp only [maxLen] at h63; omega
  have hown' := hown
  obtain ⟨hl, A, c, rfl, hc, hm, hA⟩ := hown
  by_cases hroom : n + m ≤ c
  · rcases hA with ⟨rfl, rfl⟩ | ⟨g, cur, rfl, hb, hh, hcs, htk⟩
    · have hn0 : n = 0 := by omega
      have hm0 : m = 0 := by omega
      subst hn0; subst hm0
      have h1 : xs = [] := List.eq_nil_of_length_eq_zero (by simpa using hl)
      have h2 : news = [] := List.eq_nil_of_length_eq_zero (by simpa using hs.newsLen)
      subst h1; subst h2
      refine ⟨.slice none 0 0, w, ?_, Own.nil _ _ _ _, Fr.refl _ _, .inl rfl⟩
      rcases hs.kind with ⟨e', hk⟩ | hk <;> simp [Builtin.append_, run_underlying ht, run_underlying hk, sizeOf, typeInfo, hi, hs.len, hs.cells]
    · have hfit : n * i.size + news.length ≤ cur.size := by
        rw [hs.newsLen, ← Nat.add_mul]
        exact Nat.le_trans (Nat.mul_le_mul_right _ hroom) hcs
      have hst := run_storeCells_at P g (n * i.size) e news 0 cur w hh (by simpa using hfit) hs.one
      simp only [Nat.add_zero] at hst
      refine ⟨.slice (some ⟨g, 0, none⟩) (n + m) c, w.setRow g (cur.toList.take (n * i.size) ++ news ++ cur.toList.drop (n * i.size + news.length)).toArray, ?_, ⟨hlen, _, c, rfl, hroom, hm, .inr ⟨g, _, rfl, hb, setRow_heap w g cur _ e _ hh, ?_, ?_⟩⟩, ⟨rfl, rfl, rfl, by simp, fun k _ hk => setRow_other w g k _ (fun e => hk (by simp [Value.ownBlock, e]))⟩, .inl rfl⟩
      · rcases hs.kind with ⟨e', hk⟩ | hk <;> simp [Builtin.append_, run_underlying ht, run_underlying hk, sizeOf, typeInfo, hi, hs.len, hroom, hs.cells, Addr.add_lit, hst]
      · simp only [List.size_toArray, List.length_append, List.length_take, List.length_drop, Array.length_toList]
        omega
      · rw [htk, ← hlen]
        exact List.take_left
  · have hold : (Builtin.firstCells i.size n (.slice A n c)).run P w.drew = .ok xs.toArray w.drew := by
      rcases A with _ | ad
      · have hn0 : n = 0 := by
          rcases hA with ⟨_, h0⟩ | ⟨g, _, h, _⟩
          · omega
          · cases h
        subst hn0
        have h1 : xs = [] := List.eq_nil_of_length_eq_zero (by simpa using hl)
        subst h1
        simp [run_firstCells_none]
      · refine run_firstCells_some (P := P) w.drew i.size n ad n c xs hl (fun j u hu => ?_)
        obtain ⟨ad', e', _, hc'⟩ := hown'.rd j u hu
        injection e' with e'
        subst e'
        exact hc'
    have hr := run_append_grow_src (P := P) w t tx ty e i z ht hi hz A n c xs hold x m news hs (by omega) (by omega) (growslice_fits (by omega) hbytes)
    have hge := grownCap_ge w (n + m) c e
    have hcm : grownCap w (n + m) c e ≤ maxLen := grownCap_le_maxLen w (n + m) c e h63
    refine ⟨_, _, hr, ⟨hlen, _, _, rfl, hge, hcm, .inr ⟨w.heap.size, _, rfl, hbase, heap_alloc_new w.drew _, ?_, ?_⟩⟩, ⟨rfl, rfl, rfl, by simp, fun k hk _ => Below.heap_alloc w.drew _ k hk⟩, .inr rfl⟩
    · rw [Array.size_append, List.size_toArray, size_zeroCells, hzs, hlen, ← Nat.add_mul]
      exact Nat.le_of_eq (by congr 1; omega)
    · rw [Array.toList_append, ← hlen]
      exact List.take_left

theorem wp_append_gen {o : Oper} {a : Act} {K : Act → World → Prop} {Q : Exit → Act → World → Prop} (s x : Operand) (t tx : TypeId)
    (ho : o.op = .call { callee := .builtin .append, args := #[s, x], argTypes := #[t, tx] })
    (base : Nat) (e : TypeId) (i : TypeInfo) (z : Value) (size bytes : Nat) (ht : P.underlying t = some (.slice e)) (hi : P.info? e = some i) (hz : i.zero = some z)
    (hsize : i.size = size) (hby : i.bytes = bytes) (hzs : z.cells.size = size)
    (v : Value) (n : Nat) (xs : List Value) (hs : a.eval s = v) (hown : Own w base e size v n xs)
    (y : Value) (m : Nat) (news : List Value) (hx : a.eval x = y) (hsrc : Src P size tx y m news w)
    (hbytes : (n + m) * bytes ≤ 140737488355328) (h63 : n + m ≤ maxLen) (hbase : base ≤ w.heap.size)
    (h : ∀ v' w', Own w' base e size v' (n + m) (xs ++ news) → Fr (fun k => v.ownBlock = some k) w w' → (v'.ownBlock = v.ownBlock ∨ v'.ownBlock = some w.heap.size) → K (a.put o.dst v') w') : o.wp P a w K Q := by
  obtain ⟨v', w', hrun, h2, h3, h4⟩ := run_append_gen (P := P) w base t tx o.type e i z size bytes ht hi hz hsize hby hzs v n xs hown y m news hsrc hbytes h63 hbase
  unfold Oper.wp execOp
  simp only [ho, resolve, invoke, builtin, Sem.run_bind, Sem.run_pure, Result.andThen_ok, List.map_toArray, List.map_cons, List.map_nil, hs, hx, hrun]
  exact h v' w' h2 h3 h4

theorem wpList_append_gen {ops : Array Oper} {rest : List Oper} {o : Oper} {a : Act} {Q : Exit → Act → World → Prop} (hgd : o.guard = none) (s x : Operand) (t tx : TypeId)
    (ho : o.op = .call { callee := .builtin .append, args := #[s, x], argTypes := #[t, tx] })
    (base : Nat) (e : TypeId) (i : TypeInfo) (z : Value) (size bytes : Nat) (ht : P.underlying t = some (.slice e)) (hi : P.info? e = some i) (hz : i.zero = some z)
    (hsize : i.size = size) (hby : i.bytes = bytes) (hzs : z.cells.size = size)
    (v : Value) (n : Nat) (xs : List Value) (hs : a.eval s = v) (hown : Own w base e size v n xs)
    (y : Value) (m : Nat) (news : List Value) (hx : a.eval x = y) (hsrc : Src P size tx y m news w)
    (hbytes : (n + m) * bytes ≤ 140737488355328) (h63 : n + m ≤ maxLen) (hbase : base ≤ w.heap.size)
    (h : ∀ v' w', Own w' base e size v' (n + m) (xs ++ news) → Fr (fun k => v.ownBlock = some k) w w' → (v'.ownBlock = v.ownBlock ∨ v'.ownBlock = some w.heap.size) → wpList P ops Q rest (a.put o.dst v') w') : wpList P ops Q (o :: rest) a w :=
  wpList_plain hgd fun _ hK => wp_append_gen w s x t tx ho base e i z size bytes ht hi hz hsize hby hzs v n xs hs hown y m news hx hsrc hbytes h63 hbase fun v' w' h2 h3 h4 => hK _ _ (h v' w' h2 h3 h4)

/-- the source: a slice that is read. -/
theorem Src.ofRd {size : Nat} {tx e' : TypeId} (hk : P.underlying tx = some (.slice e')) {B : Nat} (A : Option Addr) (n c : Nat) (news : List Value) (hl : news.length = n * size) (hsz : 0 < size) (hr : Rd w B A news)
    (h1 : ∀ u ∈ news, u.oneCell' = true) : Src P size tx (.slice A n c) n news w := by
  cases A with
  | none =>
    have h0 : news = [] := by
      cases news with
      | nil => rfl
      | cons u us => obtain ⟨_, h, _⟩ := hr 0 u rfl; cases h
    subst h0
    have hn : n = 0 := by
      rcases Nat.mul_eq_zero.1 hl.symm with h | h
      · exact h
      · omega
    subst hn
    exact Src.ofNil w hk c
  | some ad =>
    refine Src.ofSlice w hk ad n c news hl (fun j u hu => ?_) h1
    obtain ⟨ad', h, _, hc⟩ := hr j u hu
    injection h with h
    subst h
    exact hc
/-- the source: one element, laid in a new block ('append(s, x)'). -/
theorem Src.one {tx e' e : TypeId} (hk : P.underlying tx = some (.slice e')) (v : Value) (h1 : v.oneCell' = true) : Src P 1 tx (.slice (some ⟨w.heap.size, 0, none⟩) 1 1) 1 [v] (w.alloc (.cells #[v] e)) :=
  Src.ofSlice _ hk _ 1 1 [v] rfl (fun j u hu => by
    cases j with
    | zero =>
      injection hu with hu
      subst hu
      rw [Addr.add_lit, cell_of_row _ w.heap.size (0 + 0) #[v] e (0, 0) (heap_alloc_new w _)]
      rfl
    | succ j => simp at hu) (fun u hu => by
    rw [List.mem_singleton] at hu
    subst hu
    exact h1)
end
end Go.Proofs.YtpopbkcbplmcaaaGreat
namespace Go.Proofs.YtpopbkcbplmcaaaGreat
set_option linter.unusedVariables false
set_option linter.unusedSimpArgs false
open Go.RowKit

/-- bytes as cells. -/
def by8 (bs : List UInt8) : List Value := bs.map fun b => .int .u8 b.toNat
theorem by8_length (bs : List UInt8) : (by8 bs).length = bs.length := by simp [by8]
theorem by8_get (bs : List UInt8) (k : Nat) (h : k < bs.length) : (by8 bs)[k]? = some (.int .u8 ((bs.getD k 0).toNat : Nat)) := by
  simp [by8, List.getElem?_map, List.getElem?_eq_getElem h]
theorem by8_one (bs : List UInt8) : ∀ u ∈ by8 bs, u.oneCell' = true := by
  intro u hu
  obtain ⟨_, _, rfl⟩ := List.mem_map.1 hu
  rfl
theorem by8_append (a b : List UInt8) : by8 (a ++ b) = by8 a ++ by8 b := by simp [by8]
theorem by8_take (a : List UInt8) (k : Nat) : by8 (a.take k) = (by8 a).take k := by simp [by8, List.map_take]
theorem by8_drop (a : List UInt8) (k : Nat) : by8 (a.drop k) = (by8 a).drop k := by simp [by8, List.map_drop]
theorem by8_inj {a b : List UInt8} (h : by8 a = by8 b) : a = b := by
  induction a generalizing b with
  | nil => cases b with
    | nil => rfl
    | cons y ys => simp [by8] at h
  | cons x xs ih =>
    cases b with
    | nil => simp [by8] at h
    | cons y ys =>
      simp only [by8, List.map_cons, List.cons.injEq, Value.int.injEq, true_and] at h
      rw [ih (by simpa [by8] using h.2)]
      have h1 : x.toNat = y.toNat := by omega
      rw [UInt8.toNat_inj.1 h1]
theorem Rd.byte {w : World} {B : Nat} {A : Option Addr} {bs : List UInt8} (h : Rd w B A (by8 bs)) {k : Nat} (hk : k < bs.length) :
    ∃ ad, A = some ad ∧ ad.block < B ∧ w.cell? (ad.add k) = some (.int .u8 ((bs.getD k 0).toNat : Nat)) := h k _ (by8_get bs k hk)

/-- the number at the head of bytes, i bytes in, acc gathered. -/
def dec (i acc : Nat) : List UInt8 → Option (Nat × Nat)
  | [] => none
  | b :: r => if 9 < i then none else if i = 9 ∧ 1 < b.toNat % 128 then none else
      if b.toNat < 128 then (if b.toNat = 0 ∧ 0 < i then none else some (acc + b.toNat % 128 * 2 ^ (7 * i), i + 1))
      else dec (i + 1) (acc + b.toNat % 128 * 2 ^ (7 * i)) r
def numV : Option (Nat × Nat) → Value
  | none => .tuple #[.int .u64 0, .int .i64 (-1)]
  | some (u, k) => .tuple #[.int .u64 u, .int .i64 k]

theorem dec_drop {bs : List UInt8} {k v : Nat} (h : k < bs.length) : dec k v (bs.drop k) = dec k v (bs.getD k 0 :: bs.drop (k + 1)) := by
  rw [List.drop_eq_getElem_cons h]
  simp [List.getElem?_eq_getElem h]
theorem dec_end {bs : List UInt8} {k v : Nat} (h : bs.length ≤ k ∨ 10 ≤ k) : dec k v (bs.drop k) = none := by
  rcases h with h | h
  · rw [List.drop_eq_nil_of_le h]; rfl
  · cases bs.drop k with
    | nil => rfl
    | cons b r => rw [dec, if_pos (by omega)]
theorem dec_bad9 {bs : List UInt8} {k v : Nat} (h : k < bs.length) (h9 : k = 9 ∧ 1 < (bs.getD k 0).toNat % 128) : dec k v (bs.drop k) = none := by
  rw [dec_drop h, dec, if_neg (by omega), if_pos h9]
theorem dec_stop {bs : List UInt8} {k v : Nat} (h : k < bs.length) (hk : k < 10) (h9 : ¬ (k = 9 ∧ 1 < (bs.getD k 0).toNat % 128)) (hb : (bs.getD k 0).toNat < 128) (h0 : ¬ ((bs.getD k 0).toNat = 0 ∧ 0 < k)) :
    dec k v (bs.drop k) = some (v + (bs.getD k 0).toNat % 128 * 2 ^ (7 * k), k + 1) := by
  rw [dec_drop h, dec, if_neg (by omega), if_neg h9, if_pos hb, if_neg h0]
theorem dec_bad0 {bs : List UInt8} {k v : Nat} (h : k < bs.length) (hb : (bs.getD k 0).toNat = 0) (h0 : 0 < k) : dec k v (bs.drop k) = none := by
  rw [dec_drop h, dec]
  by_cases hk : 9 < k
  · rw [if_pos hk]
  · rw [if_neg hk]
    by_cases h9 : k = 9 ∧ 1 < (bs.getD k 0).toNat % 128
    · rw [if_pos h9]
    · rw [if_neg h9, if_pos (by omega), if_pos ⟨hb, h0⟩]
theorem dec_more {bs : List UInt8} {k v : Nat} (h : k < bs.length) (hk : k < 10) (h9 : ¬ (k = 9 ∧ 1 < (bs.getD k 0).toNat % 128)) (hb : ¬ (bs.getD k 0).toNat < 128) :
    dec k v (bs.drop k) = dec (k + 1) (v + (bs.getD k 0).toNat % 128 * 2 ^ (7 * k)) (bs.drop (k + 1)) := by
  rw [dec_drop h, dec, if_neg (by omega), if_neg h9, if_neg hb]

theorem pow7 (k : Nat) : 2 ^ (7 * (k + 1)) = 128 * 2 ^ (7 * k) := by
  rw [Nat.mul_add, Nat.pow_add, Nat.mul_comm]
theorem acc_lt {v x k : Nat} (h : v < 2 ^ (7 * k)) (hx : x < 128) : v + x * 2 ^ (7 * k) < 2 ^ (7 * (k + 1)) := by
  rw [pow7]
  have : x * 2 ^ (7 * k) ≤ 127 * 2 ^ (7 * k) := Nat.mul_le_mul_right _ (by omega)
  omega
theorem or_shift {v k : Nat} (h : v < 2 ^ k) (g : Nat) : v ||| g * 2 ^ k = v + g * 2 ^ k := by
  rw [Nat.or_comm, Nat.mul_comm, ← Nat.two_pow_add_eq_or_of_lt h, Nat.add_comm]
theorem and_127 (b : UInt8) : bits .and .u8 (b.toNat : Int) 127 = ((b.toNat % 128 : Nat) : Int) := by
  have h := b.toNat_lt
  generalize b.toNat = x at h
  revert h
  revert x
  decide +kernel
end Go.Proofs.YtpopbkcbplmcaaaGreat
namespace Go.Proofs.YtpopbkcbplmcaaaGreat
set_option linter.unusedVariables false
set_option linter.unusedSimpArgs false
open Go.RowKit

theorem dec_lt : ∀ (bs : List UInt8) (i acc u k : Nat), acc < 2 ^ (7 * i) → dec i acc bs = some (u, k) → u < 18446744073709551616
  | [], i, acc, u, k, ha, h => by simp [dec] at h
  | b :: r, i, acc, u, k, ha, h => by
    rw [dec] at h
    split at h
    · cases h
    · rename_i hi
      split at h
      · cases h
      · rename_i h9
        have hx : b.toNat % 128 < 128 := Nat.mod_lt _ (by omega)
        have hal := acc_lt ha hx
        split at h
        · split at h
          · cases h
          · injection h with h; injection h with h1 h2
            subst h1
            by_cases hk : i = 9
            · subst hk
              have e : (2 : Nat) ^ (7 * 9) = 9223372036854775808 := by decide
              rw [e] at ha ⊢
              have : ¬ 1 < b.toNat % 128 := fun h => h9 ⟨rfl, h⟩
              omega
            · have h2 : 2 ^ (7 * (i + 1)) ≤ 2 ^ 63 := Nat.pow_le_pow_right (by omega) (by omega)
              omega
        · exact dec_lt r _ _ u k hal h

/-- how a number is put: with so many rounds at most. -/
def encF : Nat → Nat → List UInt8
  | 0, u => [UInt8.ofNat u]
  | f + 1, u => if 127 < u then UInt8.ofNat (u % 128 + 128) :: encF f (u / 128) else [UInt8.ofNat u]
def enc (u : Nat) : List UInt8 := encF 9 u

theorem ofNat_toNat {x : Nat} (h : x < 256) : (UInt8.ofNat x).toNat = x := by
  rw [UInt8.toNat_ofNat']
  exact Nat.mod_eq_of_lt (by omega)

theorem encF_len : ∀ (f u : Nat), 1 ≤ (encF f u).length ∧ (encF f u).length ≤ f + 1
  | 0, u => by simp [encF]
  | f + 1, u => by
    rw [encF]
    split
    · have := encF_len f (u / 128); simp; omega
    · simp

/-- reading undoes putting, whatever stands behind. -/
theorem dec_encF : ∀ (f u i acc : Nat) (rest : List UInt8), f + i = 9 → u * 2 ^ (7 * i) < 18446744073709551616 → (0 < i → 0 < u) → dec i acc (encF f u ++ rest) = some (acc + u * 2 ^ (7 * i), i + (encF f u).length)
  | 0, u, i, acc, rest, hf, hu, h0 => by
    have hi : i = 9 := by omega
    subst hi
    have e : (2 : Nat) ^ (7 * 9) = 9223372036854775808 := by decide
    rw [e] at hu
    have hu1 : u ≤ 1 := by omega
    simp only [encF, List.cons_append, List.nil_append, List.length_cons, List.length_nil]
    rw [dec, ofNat_toNat (by omega), if_neg (by omega), if_neg (by omega), if_pos (by omega), if_neg (by omega)]
    rw [Nat.mod_eq_of_lt (by omega)]
  | f + 1, u, i, acc, rest, hf, hu, h0 => by
    rw [encF]
    split
    · rename_i hbig
      have hx : u % 128 < 128 := Nat.mod_lt _ (by omega)
      have ih := dec_encF f (u / 128) (i + 1) (acc + u % 128 * 2 ^ (7 * i)) rest (by omega) (by
        rw [pow7]
        have h1 : u / 128 * (128 * 2 ^ (7 * i)) = (u / 128 * 128) * 2 ^ (7 * i) := by rw [Nat.mul_assoc]
        rw [h1]
        have : u / 128 * 128 ≤ u := by omega
        exact Nat.lt_of_le_of_lt (Nat.mul_le_mul_right _ this) hu) (by omega)
      rw [List.cons_append, dec, ofNat_toNat (by omega), if_neg (by omega), if_neg (by omega), if_neg (by omega)]
      have e1 : (u % 128 + 128) % 128 = u % 128 := by omega
      rw [e1, ih, pow7]
      have e2 : acc + u % 128 * 2 ^ (7 * i) + u / 128 * (128 * 2 ^ (7 * i)) = acc + u * 2 ^ (7 * i) := by
        rw [← Nat.mul_assoc, Nat.add_assoc, ← Nat.add_mul]
        congr 2
        omega
      rw [e2]
      simp
      omega
    · rename_i hs
      rw [List.cons_append, dec, ofNat_toNat (by omega), if_neg (by omega), if_neg (by omega), if_pos (by omega), if_neg (by omega), Nat.mod_eq_of_lt (by omega)]
      simp
theorem dec_enc (u : Nat) (hu : u < 18446744073709551616) (rest : List UInt8) : dec 0 0 (enc u ++ rest) = some (u, (enc u).length) := by
  have h := dec_encF 9 u 0 0 rest (by omega) (by simpa using hu) (by omega)
  simpa [enc] using h

/-- what is read as a number is what would be put. -/
theorem encF_dec : ∀ (bs : List UInt8) (f i acc u k : Nat), f + i = 9 → acc < 2 ^ (7 * i) → dec i acc bs = some (u, k) →
    ∃ y, u = acc + y * 2 ^ (7 * i) ∧ (0 < i → 0 < y) ∧ encF f y = bs.take (k - i)
  | [], f, i, acc, u, k, hf, ha, h => by simp [dec] at h
  | b :: r, f, i, acc, u, k, hf, ha, h => by
    have hb := b.toNat_lt
    rw [dec] at h
    split at h
    · cases h
    · rename_i hi
      split at h
      · cases h
      · rename_i h9
        have hx : b.toNat % 128 < 128 := Nat.mod_lt _ (by omega)
        split at h
        · rename_i hs
          split at h
          · cases h
          · rename_i h0
            injection h with h; injection h with h1 h2
            subst h1; subst h2
            refine ⟨b.toNat % 128, rfl, fun h => by omega, ?_⟩
            have e : b.toNat % 128 = b.toNat := Nat.mod_eq_of_lt hs
            have e3 : i + 1 - i = 1 := by omega
            rw [e, e3]
            cases f with
            | zero => simp [encF]
            | succ f => rw [encF, if_neg (by omega)]; simp
        · rename_i hs
          cases f with
          | zero =>
            -- i = 9: the next one is beyond
            have hi9 : i = 9 := by omega
            subst hi9
            cases r with
            | nil => simp [dec] at h
            | cons b' r' => rw [dec, if_pos (by omega)] at h; cases h
          | succ f =>
            obtain ⟨y, hy, hpos, he⟩ := encF_dec r f (i + 1) _ u k (by omega) (acc_lt ha hx) h
            have hk := hpos (by omega)
            refine ⟨b.toNat % 128 + y * 128, ?_, fun _ => by omega, ?_⟩
            · rw [hy, pow7, Nat.add_mul, Nat.add_assoc, Nat.mul_assoc]
            · have hkk : ∃ j, k - i = j + 1 ∧ k - (i + 1) = j := by
                rcases Nat.lt_or_ge i k with h1 | h1
                · exact ⟨k - (i + 1), by omega, rfl⟩
                · exfalso
                  have e0 : k - (i + 1) = 0 := by omega
                  rw [e0] at he
                  have := (encF_len f y).1
                  rw [he] at this
                  simp at this
              obtain ⟨j, hj1, hj2⟩ := hkk
              rw [hj2] at he
              rw [hj1, List.take_succ_cons, encF, if_pos (by omega)]
              have e1 : (b.toNat % 128 + y * 128) % 128 + 128 = b.toNat := by omega
              have e2 : (b.toNat % 128 + y * 128) / 128 = y := by omega
              rw [e1, e2, he]
              simp
theorem enc_dec {bs : List UInt8} {u k : Nat} (h : dec 0 0 bs = some (u, k)) : enc u = bs.take k := by
  obtain ⟨y, hy, _, he⟩ := encF_dec bs 9 0 0 u k (by omega) (by decide) h
  have : u = y := by simpa using hy
  subst this
  simpa [enc] using he

/-- signed numbers, turned. -/
def zz (n : Int) : Nat := if 0 ≤ n then (2 * n).toNat else (-2 * n - 1).toNat
def unzz (u : Nat) : Int := if u % 2 = 0 then ((u / 2 : Nat) : Int) else -((u / 2 : Nat) : Int) - 1
theorem unzz_zz (n : Int) : unzz (zz n) = n := by
  unfold unzz zz
  split <;> split <;> omega
theorem zz_unzz (u : Nat) : zz (unzz u) = u := by
  unfold unzz zz
  split <;> split <;> omega
theorem zz_lt {n : Int} (h1 : -9223372036854775808 ≤ n) (h2 : n ≤ 9223372036854775807) : zz n < 18446744073709551616 := by
  unfold zz; split <;> omega
theorem unzz_bd {u : Nat} (h : u < 18446744073709551616) : -9223372036854775808 ≤ unzz u ∧ unzz u ≤ 9223372036854775807 := by
  unfold unzz; split <;> omega
theorem xor_zz {u : Nat} (h : u < 18446744073709551616) : bits .xor .i64 (wrap64 ((u : Int) / 2)) (wrap64 (-wrap64 (bits .and .u64 (u : Int) 1))) = unzz u := by
  have e1 : bits .and .u64 (u : Int) 1 = ((u % 2 : Nat) : Int) := by
    have := u64_and_nat u 1 h (by omega)
    simpa [Nat.and_one_is_mod] using this
  have e2 : wrap64 ((u : Int) / 2) = ((u / 2 : Nat) : Int) := by rw [IntWalk.wrap64_in _ (by omega)]; omega
  rw [e1, e2]
  have hx : u / 2 < 2 ^ 63 := by omega
  have hb : (BitVec.ofInt 64 ((u / 2 : Nat) : Int)).toNat = u / 2 := by
    rw [BitVec.ofInt_natCast, BitVec.toNat_ofNat]; exact Nat.mod_eq_of_lt (by omega)
  unfold unzz
  rcases Nat.mod_two_eq_zero_or_one u with h0 | h0
  · rw [h0, if_pos rfl]
    have e3 : wrap64 (-wrap64 ((0 : Nat) : Int)) = 0 := by unfold wrap64; omega
    rw [e3]
    show IntKind.i64.wrap ((BitVec.ofInt 64 ((u / 2 : Nat) : Int) ^^^ BitVec.ofInt 64 0).toNat : Int) = _
    have e4 : BitVec.ofInt 64 0 = 0#64 := by decide
    rw [e4, BitVec.xor_zero, hb, IntWalk.i64_in _ (by omega)]
  · rw [h0, if_neg (by omega)]
    have e3 : wrap64 (-wrap64 ((1 : Nat) : Int)) = -1 := by unfold wrap64; omega
    rw [e3]
    show IntKind.i64.wrap ((BitVec.ofInt 64 ((u / 2 : Nat) : Int) ^^^ BitVec.ofInt 64 (-1)).toNat : Int) = _
    have e4 : BitVec.ofInt 64 (-1) = BitVec.allOnes 64 := by decide
    rw [e4, BitVec.xor_allOnes, BitVec.toNat_not, hb, IntKind.wrap_i64]
    omega
theorem or_128 (y : Nat) : bits .or .u8 ((y : Int) % 256) 128 = (((UInt8.ofNat (y % 128 + 128)).toNat : Nat) : Int) := by
  have e : (y : Int) % 256 = ((y % 256 : Nat) : Int) := by omega
  rw [e, ofNat_toNat (by omega)]
  have h : y % 128 = (y % 256) % 128 := by omega
  have hlt : y % 256 < 256 := Nat.mod_lt _ (by omega)
  rw [h]
  generalize y % 256 = x at hlt
  revert hlt
  revert x
  decide +kernel
theorem wrap_u8 (y : Nat) (h : y ≤ 127) : IntKind.u8.wrap (y : Int) = (((UInt8.ofNat y).toNat : Nat) : Int) := by
  rw [IntWalk.u8_in _ (by omega), ofNat_toNat (by omega)]
theorem zz_bits {n : Int} (h1 : -9223372036854775808 ≤ n) (h2 : n ≤ 9223372036854775807) : bits .xor .u64 (IntKind.u64.wrap (wrap64 (n * 2))) (IntKind.u64.wrap (n / 9223372036854775808)) = (zz n : Int) := by
  unfold zz
  split
  · rename_i h0
    have e1 : IntKind.u64.wrap (wrap64 (n * 2)) = ((2 * n.toNat : Nat) : Int) := by rw [IntKind.wrap_u64]; unfold wrap64; omega
    have e2 : IntKind.u64.wrap (n / 9223372036854775808) = ((0 : Nat) : Int) := by
      have : n / 9223372036854775808 = 0 := by omega
      rw [this]; decide
    rw [e1, e2, u64_xor_nat _ _ (by omega) (by omega), Nat.xor_zero]
    omega
  · rename_i h0
    have e1 : IntKind.u64.wrap (wrap64 (n * 2)) = ((18446744073709551616 - 2 * (-n).toNat : Nat) : Int) := by rw [IntKind.wrap_u64]; unfold wrap64; omega
    have e2 : IntKind.u64.wrap (n / 9223372036854775808) = ((18446744073709551615 : Nat) : Int) := by
      have : n / 9223372036854775808 = -1 := by omega
      rw [this]; decide
    rw [e1, e2]
    have e3 := ofInt_u64 (18446744073709551616 - 2 * (-n).toNat) (by omega)
    show IntKind.u64.wrap ((BitVec.ofInt 64 ((18446744073709551616 - 2 * (-n).toNat : Nat) : Int) ^^^ BitVec.ofInt 64 ((18446744073709551615 : Nat) : Int)).toNat : Int) = _
    have e4 : BitVec.ofInt 64 ((18446744073709551615 : Nat) : Int) = BitVec.allOnes 64 := by decide
    rw [e4, BitVec.xor_allOnes, BitVec.toNat_not, e3, IntKind.wrap_u64]
    omega
end Go.Proofs.YtpopbkcbplmcaaaGreat
namespace Go.Proofs.YtpopbkcbplmcaaaGreat
set_option linter.unusedVariables false
set_option linter.unusedSimpArgs false
open Go.RowKit

theorem encF_at : ∀ (f u i : Nat) (h : i < (encF f u).length), u < 2 ^ (7 * (f + 1)) → ((encF f u)[i]).toNat = u / 2 ^ (7 * i) % 128 + (if i + 1 < (encF f u).length then 128 else 0)
  | 0, u, i, h, hu => by
    have hi : i = 0 := by simp [encF] at h; exact h
    subst hi
    have hu' : u < 128 := by simpa using hu
    have e : (if 0 + 1 < (encF 0 u).length then 128 else 0) = 0 := if_neg (by simp [encF])
    rw [e]
    simp only [encF, List.getElem_cons_zero]
    rw [ofNat_toNat (by omega)]
    simp; omega
  | f + 1, u, i, h, hu => by
    by_cases hb : 127 < u
    · have e0 : encF (f + 1) u = UInt8.ofNat (u % 128 + 128) :: encF f (u / 128) := by rw [encF, if_pos hb]
      have hl := (encF_len f (u / 128)).1
      cases i with
      | zero =>
        simp only [e0, List.getElem_cons_zero, List.length_cons]
        rw [ofNat_toNat (by omega), if_pos (by omega)]
        simp
      | succ j =>
        have hj : j < (encF f (u / 128)).length := by rw [e0] at h; simpa using h
        have hu' : u / 128 < 2 ^ (7 * (f + 1)) := by rw [pow7] at hu; omega
        have ih := encF_at f (u / 128) j hj hu'
        simp only [e0, List.getElem_cons_succ, List.length_cons]
        rw [ih, Nat.div_div_eq_div_mul, pow7]
        congr 1
        by_cases hc : j + 1 < (encF f (u / 128)).length
        · rw [if_pos hc, if_pos (by omega)]
        · rw [if_neg hc, if_neg (by omega)]
    · have e0 : encF (f + 1) u = [UInt8.ofNat u] := by rw [encF, if_neg hb]
      have hi : i = 0 := by rw [e0] at h; simpa using h
      subst hi
      simp only [e0, List.getElem_cons_zero, List.length_cons, List.length_nil]
      rw [ofNat_toNat (by omega), if_neg (by omega)]
      simp; omega

theorem encF_more : ∀ (f u i : Nat), 1 ≤ i → i ≤ (encF f u).length → (i < (encF f u).length ↔ (i < f + 1 ∧ 0 < u / 2 ^ (7 * i)))
  | 0, u, i, h1, h2 => by
    have e : (encF 0 u).length = 1 := by simp [encF]
    rw [e] at h2 ⊢
    omega
  | f + 1, u, i, h1, h2 => by
    obtain ⟨j, rfl⟩ : ∃ j, i = j + 1 := ⟨i - 1, by omega⟩
    by_cases hb : 127 < u
    · have e0 : encF (f + 1) u = UInt8.ofNat (u % 128 + 128) :: encF f (u / 128) := by rw [encF, if_pos hb]
      have hl := (encF_len f (u / 128)).1
      rw [e0, List.length_cons] at h2 ⊢
      cases j with
      | zero =>
        have : 0 < u / 2 ^ (7 * (0 + 1)) := by simp; omega
        constructor
        · intro _; exact ⟨by omega, this⟩
        · intro _; omega
      | succ j =>
        have ih := encF_more f (u / 128) (j + 1) (by omega) (by omega)
        rw [Nat.div_div_eq_div_mul, ← pow7] at ih
        constructor
        · intro h; have := ih.1 (by omega); exact ⟨by omega, this.2⟩
        · intro h; have := ih.2 ⟨by omega, h.2⟩; omega
    · have e0 : encF (f + 1) u = [UInt8.ofNat u] := by rw [encF, if_neg hb]
      rw [e0, List.length_cons, List.length_nil] at h2 ⊢
      have : j = 0 := by omega
      subst this
      have : u / 2 ^ (7 * (0 + 1)) = 0 := by simp; omega
      rw [this]
      omega

theorem u64_pow {u : Nat} (h : u < 18446744073709551616) : u < 2 ^ (7 * (9 + 1)) := by
  have e : (2 : Nat) ^ (7 * (9 + 1)) = 1180591620717411303424 := by decide
  rw [e]; omega
theorem enc_at {u i : Nat} (hu : u < 18446744073709551616) (h : i < (enc u).length) : ((enc u).getD i 0).toNat = u / 2 ^ (7 * i) % 128 + (if i + 1 < (enc u).length then 128 else 0) := by
  have := encF_at 9 u i h (u64_pow hu)
  simp only [List.getD_eq_getElem?_getD, List.getElem?_eq_getElem h, Option.getD_some]
  exact this
theorem enc_more {u i : Nat} (h1 : 1 ≤ i) (h2 : i ≤ (enc u).length) : (i < (enc u).length ↔ (i < 10 ∧ 0 < u / 2 ^ (7 * i))) := encF_more 9 u i h1 h2
theorem enc_len (u : Nat) : 1 ≤ (enc u).length ∧ (enc u).length ≤ 10 := encF_len 9 u

/-- how many bytes above 127 stand ahead. -/
def lead : List UInt8 → Nat
  | [] => 0
  | b :: r => if 127 < b.toNat then lead r + 1 else 0
/-- the value of groups. -/
def gval : List UInt8 → Nat
  | [] => 0
  | b :: r => b.toNat % 128 + 128 * gval r

theorem lead_encF : ∀ (f u : Nat) (rest : List UInt8), u < 2 ^ (7 * (f + 1)) → lead (encF f u ++ rest) + 1 = (encF f u).length
  | 0, u, rest, hu => by
    have hu' : u < 128 := by simpa using hu
    simp only [encF, List.cons_append, List.nil_append, lead]
    rw [ofNat_toNat (by omega), if_neg (by omega)]
    rfl
  | f + 1, u, rest, hu => by
    by_cases hb : 127 < u
    · rw [encF, if_pos hb, List.cons_append, lead, ofNat_toNat (by omega), if_pos (by omega), List.length_cons, lead_encF f (u / 128) rest (by rw [pow7] at hu; omega)]
    · rw [encF, if_neg hb, List.cons_append, lead, ofNat_toNat (by omega), if_neg (by omega)]
      rfl
theorem gval_encF : ∀ (f u : Nat), u < 2 ^ (7 * (f + 1)) → gval (encF f u) = u
  | 0, u, hu => by
    have hu' : u < 128 := by simpa using hu
    simp only [encF, gval]
    rw [ofNat_toNat (by omega)]
    omega
  | f + 1, u, hu => by
    by_cases hb : 127 < u
    · rw [encF, if_pos hb, gval, ofNat_toNat (by omega), gval_encF f (u / 128) (by rw [pow7] at hu; omega)]
      omega
    · rw [encF, if_neg hb, gval, ofNat_toNat (by omega)]
      simp only [gval]
      omega

theorem dec_parts {bs : List UInt8} {u k : Nat} (h : dec 0 0 bs = some (u, k)) : lead bs + 1 = k ∧ gval (bs.take k) = u ∧ u < 18446744073709551616 ∧ k ≤ 10 ∧ k ≤ bs.length ∧ enc u = bs.take k := by
  have hu := dec_lt _ 0 0 u k (by decide) h
  have he := enc_dec h
  have hl := enc_len u
  have hb : bs = enc u ++ bs.drop k := by rw [he, List.take_append_drop]
  have hk : (enc u).length = k ∧ k ≤ bs.length := by
    have h2 := dec_enc u hu (bs.drop k)
    rw [← hb, h] at h2
    injection h2 with h2
    injection h2 with _ h2
    refine ⟨h2.symm, ?_⟩
    have : (bs.take k).length = k := by rw [← he]; exact h2.symm
    rw [List.length_take] at this
    omega
  refine ⟨?_, ?_, hu, by omega, hk.2, he⟩
  · have := lead_encF 9 u (bs.drop k) (u64_pow hu)
    rw [hb]
    rw [← hk.1]
    rw [hk.1]
    exact this.trans hk.1
  · rw [← he]; exact gval_encF 9 u (u64_pow hu)

theorem ref_none1 {bs : List UInt8} (h : bs.length ≤ lead bs ∨ 9 < lead bs) : dec 0 0 bs = none := by
  cases hd : dec 0 0 bs with
  | none => rfl
  | some x =>
    obtain ⟨h1, _, _, h4, h5, _⟩ := dec_parts (u := x.1) (k := x.2) hd
    omega
theorem ref_none2 {bs : List UInt8} (h : enc (gval (bs.take (lead bs + 1)) % 18446744073709551616) ≠ bs.take (lead bs + 1)) : dec 0 0 bs = none := by
  cases hd : dec 0 0 bs with
  | none => rfl
  | some x =>
    obtain ⟨h1, h2, h3, h4, h5, h6⟩ := dec_parts (u := x.1) (k := x.2) hd
    rw [h1, h2, Nat.mod_eq_of_lt h3] at h
    exact absurd h6 h
theorem ref_some {bs : List UInt8} {u k : Nat} (hu : u < 18446744073709551616) (hk : k ≤ bs.length) (h : enc u = bs.take k) : dec 0 0 bs = some (u, k) := by
  have h2 := dec_enc u hu (bs.drop k)
  rw [h, List.take_append_drop] at h2
  rw [h2]
  congr 2
  rw [List.length_take]; omega

theorem lead_step {bs : List UInt8} {k : Nat} (h : k < bs.length) (hb : 127 < (bs.getD k 0).toNat) (hk : lead bs = k + lead (bs.drop k)) : lead bs = (k + 1) + lead (bs.drop (k + 1)) := by
  rw [hk, List.drop_eq_getElem_cons h, lead]
  have e : bs.getD k 0 = bs[k] := by simp [List.getElem?_eq_getElem h]
  rw [e] at hb
  rw [if_pos hb]
  omega
theorem lead_stop {bs : List UInt8} {k : Nat} (h : bs.length ≤ k ∨ ¬ 127 < (bs.getD k 0).toNat) (hk : lead bs = k + lead (bs.drop k)) : lead bs = k := by
  by_cases hl : bs.length ≤ k
  · rw [hk, List.drop_eq_nil_of_le hl]; rfl
  · have hl' : k < bs.length := by omega
    have e : bs.getD k 0 = bs[k] := by simp [List.getElem?_eq_getElem hl']
    have hb : ¬ 127 < bs[k].toNat := by rw [e] at h; omega
    rw [hk, List.drop_eq_getElem_cons hl', lead, if_neg hb]
    rfl

/-- the groups of bytes j .. k, the last one first. -/
def gv (bs : List UInt8) (k j : Nat) : Nat := gval ((bs.take k).drop j) % 18446744073709551616
theorem gv_end (bs : List UInt8) (k : Nat) : gv bs k k = 0 := by
  unfold gv
  rw [List.drop_eq_nil_of_le (by simp; omega)]
  rfl
theorem gv_step {bs : List UInt8} {k j : Nat} (hj : j < k) (hk : k ≤ bs.length) :
    bits .or .u64 (IntKind.u64.wrap ((gv bs k (j + 1) : Int) * 128)) (((bs.getD j 0).toNat % 128 : Nat) : Int) = (gv bs k j : Int) := by
  have hj' : j < bs.length := by omega
  have e : bs.getD j 0 = bs[j] := by simp [List.getElem?_eq_getElem hj']
  have hd : (bs.take k).drop j = bs[j] :: (bs.take k).drop (j + 1) := by
    rw [List.drop_eq_getElem_cons (by simp; omega)]
    simp
  rw [e]
  unfold gv
  rw [hd, gval]
  generalize gval ((bs.take k).drop (j + 1)) = y
  have hx : bs[j].toNat % 128 < 128 := Nat.mod_lt _ (by omega)
  generalize bs[j].toNat % 128 = x at hx
  have e1 : IntKind.u64.wrap (((y % 18446744073709551616 : Nat) : Int) * 128) = ((y * 128 % 18446744073709551616 : Nat) : Int) := by rw [IntKind.wrap_u64]; omega
  rw [e1, u64_or_nat _ _ (by omega) (by omega)]
  have e2 : y * 128 % 18446744073709551616 = y % 144115188075855872 * 2 ^ 7 := by omega
  rw [e2, Nat.or_comm, or_shift (k := 7) (by omega)]
  omega
end Go.Proofs.YtpopbkcbplmcaaaGreat
namespace Go.Proofs.YtpopbkcbplmcaaaGreat
set_option linter.unusedVariables false
set_option linter.unusedSimpArgs false

/-- a point: document and place. -/
abbrev Pt := Int × List Int
def noPt : Pt := (0, [])
/-- rows of numbers, as they go. -/
theorem li_irrefl (s : List Int) : ¬ s < s := List.lt_irrefl s
theorem li_trans {s t u : List Int} (h : s < t) (k : t < u) : s < u := List.lt_trans h k
theorem li_total (s t : List Int) : s < t ∨ s = t ∨ t < s := by
  by_cases h1 : s < t
  · exact .inl h1
  · by_cases h2 : t < s
    · exact .inr (.inr h2)
    · exact .inr (.inl (List.le_antisymm (List.not_lt.1 h2) (List.not_lt.1 h1)))
def keyP (d : Nat) (p : Pt) : List Int := p.2.getD d 0 :: (p.2 ++ [p.1])
theorem keyP_inj {d : Nat} {a b : Pt} (h : keyP d a = keyP d b) : a = b := by
  have h1 : a.2 ++ [a.1] = b.2 ++ [b.1] := (List.cons.inj h).2
  have h2 := List.append_inj' h1 rfl
  exact Prod.ext (List.cons.inj h2.2).1 h2.1
def ltP (d : Nat) (a b : Pt) : Prop := keyP d a < keyP d b
instance (d : Nat) (a b : Pt) : Decidable (ltP d a b) := inferInstanceAs (Decidable (keyP d a < keyP d b))
def leP (d : Nat) (a b : Pt) : Bool := decide (¬ ltP d b a)
theorem leP_iff {d : Nat} {a b : Pt} : leP d a b = true ↔ ¬ (keyP d b < keyP d a) := ⟨fun h => of_decide_eq_true h, fun h => decide_eq_true (p := ¬ ltP d b a) h⟩
theorem leP_trans (d : Nat) (a b c : Pt) (h1 : leP d a b = true) (h2 : leP d b c = true) : leP d a c = true := by
  rw [leP_iff] at *
  exact List.not_lt.2 (List.le_trans (List.not_lt.1 h1) (List.not_lt.1 h2))
theorem leP_total (d : Nat) (a b : Pt) : (leP d a b || leP d b a) = true := by
  rw [Bool.or_eq_true, leP_iff, leP_iff]
  rcases li_total (keyP d a) (keyP d b) with h | h | h
  · exact .inl (List.lt_asymm h)
  · rw [h]; exact .inl (li_irrefl _)
  · exact .inr (List.lt_asymm h)
theorem leP_anti {d : Nat} {a b : Pt} (h1 : leP d a b = true) (h2 : leP d b a = true) : a = b := by
  rw [leP_iff] at *
  exact keyP_inj (List.le_antisymm (List.not_lt.1 h1) (List.not_lt.1 h2))
def sortP (d : Nat) (l : List Pt) : List Pt := l.mergeSort (leP d)
theorem sortP_len (d : Nat) (l : List Pt) : (sortP d l).length = l.length := List.length_mergeSort l
theorem sortP_perm (d : Nat) (l : List Pt) : (sortP d l).Perm l := List.mergeSort_perm l _
theorem sortP_up (d : Nat) (l : List Pt) : (sortP d l).Pairwise (fun a b => leP d a b = true) := List.pairwise_mergeSort (leP_trans d) (fun a b => by simpa using leP_total d a b) l
theorem sortP_uniq {d : Nat} {l m : List Pt} (hp : m.Perm l) (hs : m.Pairwise (fun a b => leP d a b = true)) : m = sortP d l :=
  (hp.trans (sortP_perm d l).symm).eq_of_pairwise (fun a b _ _ h1 h2 => leP_anti h1 h2) hs (sortP_up d l)
theorem sortP_mem {d : Nat} {l : List Pt} {p : Pt} : p ∈ sortP d l ↔ p ∈ l := (sortP_perm d l).mem_iff
/-- the least and the greatest number of a dimension. -/
def lowP (d : Nat) : List Pt → Int → Int
  | [], m => m
  | p :: r, m => lowP d r (if p.2.getD d 0 < m then p.2.getD d 0 else m)
def highP (d : Nat) : List Pt → Int → Int
  | [], m => m
  | p :: r, m => highP d r (if m < p.2.getD d 0 then p.2.getD d 0 else m)
theorem lowP_le (d : Nat) : ∀ (l : List Pt) (m : Int), lowP d l m ≤ m
  | [], m => Int.le_refl _
  | p :: r, m => by rw [lowP]; refine Int.le_trans (lowP_le d r _) ?_; split <;> omega
theorem highP_ge (d : Nat) : ∀ (l : List Pt) (m : Int), m ≤ highP d l m
  | [], m => Int.le_refl _
  | p :: r, m => by rw [highP]; refine Int.le_trans ?_ (highP_ge d r _); split <;> omega
theorem lowP_snoc (d : Nat) (p : Pt) : ∀ (l : List Pt) (m : Int), lowP d (l ++ [p]) m = (if p.2.getD d 0 < lowP d l m then p.2.getD d 0 else lowP d l m)
  | [], m => rfl
  | q :: r, m => by rw [List.cons_append, lowP, lowP, lowP_snoc d p r]
theorem highP_snoc (d : Nat) (p : Pt) : ∀ (l : List Pt) (m : Int), highP d (l ++ [p]) m = (if highP d l m < p.2.getD d 0 then p.2.getD d 0 else highP d l m)
  | [], m => rfl
  | q :: r, m => by rw [List.cons_append, highP, highP, highP_snoc d p r]
def farP (d : Nat) (l : List Pt) : Nat := (highP d l ((l.getD 0 noPt).2.getD d 0) - lowP d l ((l.getD 0 noPt).2.getD d 0)).toNat
def widF (l : List Pt) : Nat → Nat
  | 0 => 0
  | k + 1 => if farP (widF l k) l < farP k l then k else widF l k
theorem widF_lt (l : List Pt) : ∀ k, 0 < k → widF l k < k
  | 0, h => absurd h (by omega)
  | k + 1, _ => by
    rw [widF]
    split
    · omega
    · by_cases hk : k = 0
      · subst hk; simp [widF]
      · have := widF_lt l k (by omega); omega
/-- a point's form. -/
def ptB (p : Pt) : List UInt8 := enc p.1.toNat ++ (p.2.map (fun v => enc (zz v))).flatten
def ptsB (l : List Pt) : List UInt8 := (l.map ptB).flatten
/-- the tree's form. -/
def treeP (dims : Nat) (l : List Pt) : List UInt8 :=
  if h : l.length ≤ 8 then (0 : UInt8) :: (enc l.length ++ ptsB (sortP 0 l))
  else (1 : UInt8) :: (enc (widF l dims) ++ enc (zz (((sortP (widF l dims) l).getD ((l.length + 1) / 2) noPt).2.getD (widF l dims) 0)) ++ enc (treeP dims ((sortP (widF l dims) l).take ((l.length + 1) / 2))).length ++ treeP dims ((sortP (widF l dims) l).take ((l.length + 1) / 2)) ++ treeP dims ((sortP (widF l dims) l).drop ((l.length + 1) / 2)))
termination_by l.length
decreasing_by
  all_goals simp only [List.length_take, List.length_drop, sortP_len]; omega
def mayP (dims : Int) (l : List Pt) : Prop := 1 ≤ dims ∧ dims ≤ 4 ∧ l.length ≤ 1048576 ∧ ∀ p ∈ l, (p.2.length : Int) = dims ∧ 0 ≤ p.1 ∧ p.1 < 16384
def buildT (dims : Nat) (l : List Pt) : List UInt8 := enc dims ++ enc l.length ++ treeP dims l
theorem treeP_leaf {dims : Nat} {l : List Pt} (h : l.length ≤ 8) : treeP dims l = (0 : UInt8) :: (enc l.length ++ ptsB (sortP 0 l)) := by rw [treeP, dif_pos h]
theorem treeP_cut {dims : Nat} {l : List Pt} (h : ¬ l.length ≤ 8) {d n : Nat} {s : List Pt} (hd : d = widF l dims) (hs : s = sortP d l) (hn : n = (l.length + 1) / 2) :
    treeP dims l = (1 : UInt8) :: (enc d ++ enc (zz ((s.getD n noPt).2.getD d 0)) ++ enc (treeP dims (s.take n)).length ++ treeP dims (s.take n) ++ treeP dims (s.drop n)) := by
  rw [treeP, dif_neg h, ← hd, ← hn, ← hs]
theorem ptB_le {p : Pt} {k : Nat} (h : p.2.length ≤ k) : (ptB p).length ≤ 10 + 10 * k := by
  have h1 : ∀ l : List Int, ((l.map (fun v => enc (zz v))).flatten).length ≤ 10 * l.length := fun l => by
    induction l with
    | nil => simp
    | cons x r ih => have := (enc_len (zz x)).2; simp only [List.map_cons, List.flatten_cons, List.length_append, List.length_cons]; omega
  have h2 := (enc_len p.1.toNat).2
  have h3 := h1 p.2
  rw [ptB, List.length_append]
  omega
theorem ptsB_le : ∀ {l : List Pt}, (∀ p ∈ l, p.2.length ≤ 4) → (ptsB l).length ≤ 50 * l.length
  | [], _ => by simp [ptsB]
  | p :: r, h => by
    have h1 := ptsB_le (l := r) (fun q hq => h q (List.mem_cons_of_mem _ hq))
    have h2 := ptB_le (h p List.mem_cons_self)
    have e : ptsB (p :: r) = ptB p ++ ptsB r := by simp [ptsB]
    rw [e, List.length_append, List.length_cons]
    omega
theorem treeP_le (dims : Nat) : ∀ (n : Nat) (l : List Pt), l.length = n → 1 ≤ n → (∀ p ∈ l, p.2.length ≤ 4) → (treeP dims l).length + 40 ≤ 110 * n := by
  intro n
  induction n using Nat.strongRecOn with
  | ind n ih =>
    intro l hl h1 h4
    by_cases h8 : l.length ≤ 8
    · have h2 := ptsB_le (l := sortP 0 l) (fun p hp => h4 p (sortP_mem.1 hp))
      have h3 := (enc_len l.length).2
      rw [sortP_len] at h2
      rw [treeP_leaf h8, List.length_cons, List.length_append]
      omega
    · obtain ⟨d, hd⟩ : ∃ d, d = widF l dims := ⟨_, rfl⟩
      obtain ⟨s, hs⟩ : ∃ s, s = sortP d l := ⟨_, rfl⟩
      obtain ⟨k, hk⟩ : ∃ k, k = (l.length + 1) / 2 := ⟨_, rfl⟩
      have hsl : s.length = l.length := by rw [hs, sortP_len]
      have hsm : ∀ p ∈ s, p.2.length ≤ 4 := fun p hp => h4 p (sortP_mem.1 (by rw [← hs]; exact hp))
      have a1 := ih k (by omega) (s.take k) (by rw [List.length_take]; omega) (by omega) (fun p hp => hsm p (List.mem_of_mem_take hp))
      have a2 := ih (n - k) (by omega) (s.drop k) (by rw [List.length_drop]; omega) (by omega) (fun p hp => hsm p (List.mem_of_mem_drop hp))
      have e1 := (enc_len d).2
      have e2 := (enc_len (zz ((s.getD k noPt).2.getD d 0))).2
      have e3 := (enc_len (treeP dims (s.take k)).length).2
      rw [treeP_cut h8 hd hs hk]
      simp only [List.length_cons, List.length_append]
      omega
end Go.Proofs.YtpopbkcbplmcaaaGreat
