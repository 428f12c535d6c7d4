/- Several texts in one: Mem, CodecPlain, Mem3, CodecLaw, Base, WordsP, Ints. -/
import Derived.Test.YtnjcncidlhllmaaGreatChecked
import Derived.WalkKit
import Derived.WalkSpells
import Derived.WalkLawsBesides
import Derived.Outline
import Derived.Lib.Hide
import Derived.Deep.AppendSrc
import Derived.Deep.AppendLies
import Derived.Deep.Draws
import Derived.Deep.QuietTactic
import Derived.BigQuiet
import Derived.IntWalk
import Derived.Laws.BitsAllLaws
import Derived.Lib.TrailingZeros
namespace Go.Proofs.YtnjcncidlhllmaaGreat
set_option linter.unusedVariables false
set_option linter.unusedSimpArgs false
open Go.RowKit

theorem block_of_add (a : Addr) (n : Nat) : (a.add n).block = a.block := by unfold Addr.add; split <;> rfl
theorem add_of_add (a : Addr) (i j : Nat) : (a.add i).add j = a.add (i + j) := by
  unfold Addr.add
  by_cases hi : i = 0 <;> by_cases hj : j = 0 <;> simp [hi, hj, Nat.add_assoc]
theorem hide {p : Prop} (h : p) : Hid p := h

/-! Frames: only blocks of S may have changed. -/
structure Fr (S : Nat → Prop) (w w' : World) : Prop where
  os : w'.os = w.os
  tape : w'.tape = w.tape
  output : w'.output = w.output
  size : w.heap.size ≤ w'.heap.size
  block : ∀ k, k < w.heap.size → ¬ S k → w'.heap[k]? = w.heap[k]?
def No : Nat → Prop := fun _ => False
def Is (g : Nat) : Nat → Prop := fun k => k = g

section
variable {S T : Nat → Prop} {a b c w w' : World}
theorem Fr.refl (S : Nat → Prop) (w : World) : Fr S w w := ⟨rfl, rfl, rfl, Nat.le_refl _, fun _ _ _ => rfl⟩
theorem Fr.trans (h : Fr S a b) (k : Fr T b c) (hT : ∀ i, i < a.heap.size → T i → S i) : Fr S a c :=
  ⟨k.os.trans h.os, k.tape.trans h.tape, k.output.trans h.output, Nat.le_trans h.size k.size, fun i hi hS => (k.block i (Nat.lt_of_lt_of_le hi h.size) (fun ht => hS (hT i hi ht))).trans (h.block i hi hS)⟩
theorem Fr.tr (h : Fr S a b) (k : Fr No b c) : Fr S a c := h.trans k (fun _ _ h => h.elim)
theorem Fr.ts (h : Fr S a b) (k : Fr S b c) : Fr S a c := h.trans k (fun _ _ h => h)
theorem Fr.mono (h : Fr S a b) (hS : ∀ i, i < a.heap.size → S i → T i) : Fr T a b := ⟨h.os, h.tape, h.output, h.size, fun i hi ht => h.block i hi (fun hs => ht (hS i hi hs))⟩
theorem Fr.any (h : Fr No a b) (T : Nat → Prop) : Fr T a b := h.mono (fun _ _ h => h.elim)
theorem Fr.drew (h : Fr S a w) : Fr S a w.drew := ⟨h.os, h.tape, h.output, h.size, h.block⟩
theorem Fr.drewN (h : Fr S a w) (n : Nat) : Fr S a (w.drewN n) := ⟨h.os, h.tape, h.output, h.size, h.block⟩
theorem Fr.of_drewN {n : Nat} (h : Fr S (a.drewN n) w) : Fr S a w := ⟨h.os, h.tape, h.output, h.size, h.block⟩
theorem Fr.alloc (h : Fr S a w) (o : Obj) : Fr S a (w.alloc o) :=
  ⟨h.os, h.tape, h.output, Nat.le_trans h.size (by simp), fun i hi hne => (Below.heap_alloc w o i (Nat.lt_of_lt_of_le hi h.size)).trans (h.block i hi hne)⟩
theorem Fr.setCell (h : Fr S a w) {p : Addr} (hp : p.block < a.heap.size → S p.block) (u : Value) : Fr S a (w.setCell p u) :=
  ⟨h.os, h.tape, h.output, by simpa [World.setCell] using h.size, fun i hi hne => (Below.heap_setCell w p u i (by
    rintro rfl
    exact hne (hp hi))).trans (h.block i hi hne)⟩
theorem Fr.of_grown {row : Option Nat} (h : w.grownBy w' row) : Fr (fun k => row = some k) w w' := ⟨h.os, h.tape, h.output, h.size, fun i hi hne => h.block i hi (fun e => hne e.symm)⟩
theorem Fr.of_below (h : Below w.heap.size w w') : Fr No w w' := ⟨h.os, h.tape, h.output, h.size, fun i hi _ => h.block i hi⟩
theorem Fr.below (h : Fr No w w') : Below w.heap.size w w' := ⟨h.os, h.tape, h.output, h.size, fun i hi => h.block i hi (fun h => h)⟩
theorem Fr.belowN {B : Nat} (h : Fr S w w') (hB : B ≤ w.heap.size) (hS : ∀ k, k < B → ¬ S k) : Below B w w' := ⟨h.os, h.tape, h.output, h.size, fun i hi => h.block i (Nat.lt_of_lt_of_le hi hB) (hS i hi)⟩
theorem Fr.cell (h : Fr S w w') {p : Addr} {v : Value} (hc : w.cell? p = some v) (hS : ¬ S p.block) : w'.cell? p = some v :=
  (World.cell?_of_block (h.block p.block (World.block_lt_of_cell? w p hc) hS)).trans hc
theorem Fr.blk {k : Nat} {o : Obj} (h : Fr S w w') (hk : w.heap[k]? = some o) (hS : ¬ S k) : w'.heap[k]? = some o :=
  (h.block k (Array.getElem?_eq_some_iff.1 hk).1 hS).trans hk
end

theorem Fr.put {a w : World} {g : Nat} (h : Fr (Is g) a w) (i : Nat) (u : Value) : Fr (Is g) a (w.setCell ⟨g, i, none⟩ u) := h.setCell (p := ⟨g, i, none⟩) (fun _ => rfl) u
theorem Fr.own {S : Nat → Prop} {a b c : World} {v : Value} (h : Fr S a b) (k : Fr (fun k => v.ownBlock = some k) b c) (hv : ∀ g, v.ownBlock = some g → a.heap.size ≤ g ∨ S g) : Fr S a c :=
  h.trans k (fun i hi e => by
    rcases hv i e with h | h
    · omega
    · exact h)

/-! A slice that is read: the cells xs lie behind address A, in a block below B. -/
def Rd (w : World) (B : Nat) (A : Option Addr) (xs : List Value) : Prop :=
  ∀ j u, xs[j]? = some u → ∃ ad, A = some ad ∧ ad.block < B ∧ w.cell? (ad.add j) = some u
section
variable {w w' : World} {B B' : Nat} {A : Option Addr} {xs ys : List Value}
theorem Rd.nil (w : World) (B : Nat) (A : Option Addr) : Rd w B A [] := fun j u h => by simp at h
theorem Rd.more (h : Rd w B A xs) (hB : B ≤ B') : Rd w B' A xs := fun j u hu => by
  obtain ⟨ad, e, hb, hc⟩ := h j u hu
  exact ⟨ad, e, by omega, hc⟩
theorem Rd.fr {S : Nat → Prop} (h : Rd w B A xs) (f : Fr S w w') (hS : ∀ k, k < B → ¬ S k) : Rd w' B A xs := fun j u hu => by
  obtain ⟨ad, e, hb, hc⟩ := h j u hu
  exact ⟨ad, e, hb, f.cell hc (by rw [block_of_add]; exact hS _ hb)⟩
theorem Rd.fr0 (h : Rd w B A xs) (f : Fr No w w') : Rd w' B A xs := h.fr f (fun _ _ h => h)
theorem Rd.tk (h : Rd w B A xs) (k : Nat) : Rd w B A (xs.take k) := fun j u hu => by
  rw [List.getElem?_take] at hu
  split at hu
  · exact h j u hu
  · cases hu
theorem Rd.dr {ad : Addr} (h : Rd w B (some ad) xs) (k : Nat) : Rd w B (some (ad.add k)) (xs.drop k) := fun j u hu => by
  rw [List.getElem?_drop] at hu
  obtain ⟨ad', e, hb, hc⟩ := h _ u hu
  injection e with e
  subst e
  exact ⟨_, rfl, by rw [block_of_add]; exact hb, by rw [add_of_add]; exact hc⟩
theorem Rd.cut (h : Rd w B A xs) {k cap : Nat} (hk : xs.length ≤ cap) : Rd w B (if cap = k then A else A.map (·.add k)) (xs.drop k) := by
  split
  · subst k
    rw [List.drop_eq_nil_of_le hk]
    exact Rd.nil _ _ _
  · cases A with
    | none => intro j u hu; rw [List.getElem?_drop] at hu; obtain ⟨_, e, _⟩ := h _ u hu; cases e
    | some ad => exact h.dr k
end

/-! A slice of the call's own: nil, or at the head of a block from base on, with spare room c (in elements) at most what the block holds. -/
def Own (w : World) (base : Nat) (e : TypeId) (size : Nat) (v : Value) (n : Nat) (xs : List Value) : Prop :=
  xs.length = n * size ∧ ∃ A c, v = .slice A n c ∧ n ≤ c ∧ c ≤ maxLen ∧
    ((A = none ∧ c = 0) ∨ ∃ g cur, A = some ⟨g, 0, none⟩ ∧ base ≤ g ∧ w.heap[g]? = some (.cells cur e (0, 0)) ∧ c * size ≤ cur.size ∧ cur.toList.take (n * size) = xs)
section
variable {w w' : World} {base e size n : Nat} {v : Value} {xs : List Value}
theorem Own.nil (w : World) (base : Nat) (e : TypeId) (size : Nat) : Own w base e size (.slice none 0 0) 0 [] := ⟨by simp, none, 0, rfl, Nat.le_refl _, Nat.zero_le _, .inl ⟨rfl, rfl⟩⟩
theorem Own.fr {S : Nat → Prop} (h : Own w base e size v n xs) (f : Fr S w w') (hS : ∀ g, v.ownBlock = some g → ¬ S g) : Own w' base e size v n xs := by
  obtain ⟨hl, A, c, rfl, hc, hm, hA⟩ := h
  refine ⟨hl, A, c, rfl, hc, hm, ?_⟩
  rcases hA with hA | ⟨g, cur, rfl, hb, hh, hcs, ht⟩
  · exact .inl hA
  · exact .inr ⟨g, cur, rfl, hb, f.blk hh (hS g rfl), hcs, ht⟩
theorem Own.fr0 (h : Own w base e size v n xs) (f : Fr No w w') : Own w' base e size v n xs := h.fr f (fun _ _ h => h)
theorem Own.lower {b2 : Nat} (h : Own w base e size v n xs) (hb : b2 ≤ base) : Own w b2 e size v n xs := by
  obtain ⟨hl, A, c, rfl, hc, hm, hA⟩ := h
  refine ⟨hl, A, c, rfl, hc, hm, ?_⟩
  rcases hA with hA | ⟨g, cur, rfl, hg, r⟩
  · exact .inl hA
  · exact .inr ⟨g, cur, rfl, Nat.le_trans hb hg, r⟩
theorem Own.lt (h : Own w base e size v n xs) : ∀ k, v.ownBlock = some k → base ≤ k ∧ k < w.heap.size := by
  intro k hk
  obtain ⟨hl, A, c, rfl, hc, hm, hA⟩ := h
  rcases hA with ⟨rfl, _⟩ | ⟨g, cur, rfl, hb, hg, _⟩
  · simp [Value.ownBlock] at hk
  · simp [Value.ownBlock] at hk
    subst hk
    exact ⟨hb, (Array.getElem?_eq_some_iff.1 hg).1⟩
theorem Own.ne_blk {g : Nat} {cs : Array Value} {t : TypeId} {fz : Nat × Nat} (h : Own w base e size v n xs) (hv : v.ownBlock = some g) (hg : w.heap[g]? = some (.cells cs t fz)) (hne : e ≠ t) : False := by
  obtain ⟨hl, A, c, rfl, hc, hm, hA⟩ := h
  rcases hA with ⟨rfl, _⟩ | ⟨g', cur, rfl, hb, hh, _⟩
  · simp [Value.ownBlock] at hv
  · have e1 : g' = g := Option.some.inj hv
    subst e1
    rw [hh] at hg
    injection hg with hg
    injection hg with _ ht
    exact hne ht
/-- The form of such a value, and its cells. -/
theorem Own.form (h : Own w base e size v n xs) : ∃ A c, v = .slice A n c ∧ n ≤ c ∧ c ≤ maxLen ∧ (A = none → c = 0) ∧ Rd w w.heap.size A xs ∧ (∀ ad, A = some ad → base ≤ ad.block) := by
  obtain ⟨hl, A, c, rfl, hc, hm, hA⟩ := h
  refine ⟨A, c, rfl, hc, hm, ?_, ?_, ?_⟩
  · rcases hA with ⟨_, h0⟩ | ⟨g, cur, rfl, _⟩
    · exact fun _ => h0
    · exact fun h => by cases h
  · intro j u hu
    rcases hA with ⟨rfl, rfl⟩ | ⟨g, cur, rfl, hb, hh, hcs, ht⟩
    · have : n = 0 := by omega
      subst this
      have : xs = [] := List.eq_nil_of_length_eq_zero (by simpa using hl)
      subst this
      simp at hu
    · refine ⟨_, rfl, (Array.getElem?_eq_some_iff.1 hh).1, ?_⟩
      rw [Addr.add_lit, Nat.zero_add, cell_of_row w g j cur e (0, 0) hh]
      rw [← ht, List.getElem?_take] at hu
      split at hu
      · simpa using hu
      · cases hu
  · intro ad had
    rcases hA with ⟨rfl, rfl⟩ | ⟨g, cur, rfl, hb, _⟩
    · cases had
    · injection had with had; subst had; exact hb
theorem Own.rd {A : Option Addr} {c : Nat} (h : Own w base e size (.slice A n c) n xs) : Rd w w.heap.size A xs := by
  obtain ⟨A', c', hv, _, _, _, hr, _⟩ := h.form
  injection hv with h1 h2 h3
  subst h1
  exact hr
/-- A cut at the end, with or without its spare room: 's[:k]', 's[:k:k]'. -/
theorem Own.cut {A : Option Addr} {c k c' : Nat} (h : Own w base e size (.slice A n c) n xs) (hk : k ≤ c') (hc : c' ≤ c) (hkn : k ≤ n) : Own w base e size (.slice A k c') k (xs.take (k * size)) := by
  obtain ⟨hl, A', c'', hv, hn, hm, hA⟩ := h
  injection hv with h1 h2 h3
  subst h1; subst h3
  have hks : k * size ≤ n * size := Nat.mul_le_mul_right _ hkn
  refine ⟨by rw [List.length_take, hl]; omega, A, c', rfl, hk, by omega, ?_⟩
  rcases hA with ⟨rfl, rfl⟩ | ⟨g, cur, rfl, hb, hh, hcs, ht⟩
  · exact .inl ⟨rfl, by omega⟩
  · have h4 : c' * size ≤ c * size := Nat.mul_le_mul_right _ hc
    refine .inr ⟨g, cur, rfl, hb, hh, by omega, ?_⟩
    rw [← ht, List.take_take, Nat.min_eq_left hks]
theorem Own.le {A : Option Addr} {c m : Nat} (h : Own w base e size (.slice A m c) n xs) : m = n ∧ n ≤ c ∧ c ≤ maxLen := by
  obtain ⟨_, A', c', hv, h1, h2, _⟩ := h
  injection hv with a1 a2 a3
  subst a3
  exact ⟨a2, h1, h2⟩
theorem Own.clip {A : Option Addr} {c : Nat} (h : Own w base e size (.slice A n c) n xs) : Own w base e size (.slice A n n) n xs := by
  have h1 := h.cut (k := n) (c' := n) (Nat.le_refl _) h.le.2.1 (Nat.le_refl _)
  rwa [List.take_of_length_le (Nat.le_of_eq h.1)] at h1
end

section
variable {P : Program} (w : World)
/-- append onto a slice of the call's own, from whatever source. -/
theorem run_append_gen (base : Nat) (t tx ty e : TypeId) (i : TypeInfo) (z : Value) (size bytes : Nat) (ht : P.underlying t = some (.slice e)) (hi : P.info? e = some i) (hz : i.zero = some z)
    (hsize : i.size = size) (hby : i.bytes = bytes) (hzs : z.cells.size = size)
    (v : Value) (n : Nat) (xs : List Value) (hown : Own w base e size v n xs) (x : Value) (m : Nat) (news : List Value) (hs : Src P size tx x m news w)
    (hbytes : (n + m) * bytes ≤ 140737488355328) (h63 : n + m ≤ maxLen) (hbase : base ≤ w.heap.size) :
    ∃ v' w', (Builtin.append_ #[t, tx] ty #[v, x]).run P w = .ok v' w' ∧ Own w' base e size v' (n + m) (xs ++ news) ∧ Fr (fun k => v.ownBlock = some k) w w' ∧
      (v'.ownBlock = v.ownBlock ∨ v'.ownBlock = some w.heap.size) := by
  subst hsize
  subst hby
  have hlen : (xs ++ news).length = (n + m) * i.size := by rw [List.length_append, hown.1, hs.newsLen, Nat.add_mul]
  have h63' : n + m ≤ 9223372036854775807 := by simp only [maxLen] at h63; omega
  have hown' := hown
  obtain ⟨hl, A, c, rfl, hc, hm, hA⟩ := hown
  by_cases hroom : n + m ≤ c
  · rcases hA with ⟨rfl, rfl⟩ | ⟨g, cur, rfl, hb, hh, hcs, htk⟩
    · have hn0 : n = 0 := by omega
      have hm0 : m = 0 := by omega
      subst hn0; subst hm0
      have h1 : xs = [] := List.eq_nil_of_length_eq_zero (by simpa using hl)
      have h2 : news = [] := List.eq_nil_of_length_eq_zero (by simpa using hs.newsLen)
      subst h1; subst h2
      refine ⟨.slice none 0 0, w, ?_, Own.nil _ _ _ _, Fr.refl _ _, .inl rfl⟩
      rcases hs.kind with ⟨e', hk⟩ | hk <;> simp [Builtin.append_, run_underlying ht, run_underlying hk, sizeOf, typeInfo, hi, hs.len, hs.cells]
    · have hfit : n * i.size + news.length ≤ cur.size := by
        rw [hs.newsLen, ← Nat.add_mul]
        exact Nat.le_trans (Nat.mul_le_mul_right _ hroom) hcs
      have hst := run_storeCells_at P g (n * i.size) e news 0 cur w hh (by simpa using hfit) hs.one
      simp only [Nat.add_zero] at hst
      refine ⟨.slice (some ⟨g, 0, none⟩) (n + m) c, w.setRow g (cur.toList.take (n * i.size) ++ news ++ cur.toList.drop (n * i.size + news.length)).toArray, ?_, ⟨hlen, _, c, rfl, hroom, hm, .inr ⟨g, _, rfl, hb, setRow_heap w g cur _ e _ hh, ?_, ?_⟩⟩, ⟨rfl, rfl, rfl, by simp, fun k _ hk => setRow_other w g k _ (fun e => hk (by simp [Value.ownBlock, e]))⟩, .inl rfl⟩
      · rcases hs.kind with ⟨e', hk⟩ | hk <;> simp [Builtin.append_, run_underlying ht, run_underlying hk, sizeOf, typeInfo, hi, hs.len, hroom, hs.cells, Addr.add_lit, hst]
      · simp only [List.size_toArray, List.length_append, List.length_take, List.length_drop, Array.length_toList]
        omega
      · rw [htk, ← hlen]
        exact List.take_left
  · have hold : (Builtin.firstCells i.size n (.slice A n c)).run P w.drew = .ok xs.toArray w.drew := by
      rcases A with _ | ad
      · have hn0 : n = 0 := by
          rcases hA with ⟨_, h0⟩ | ⟨g, _, h, _⟩
          · omega
          · cases h
        subst hn0
        have h1 : xs = [] := List.eq_nil_of_length_eq_zero (by simpa using hl)
        subst h1
        simp [run_firstCells_none]
      · refine run_firstCells_some (P := P) w.drew i.size n ad n c xs hl (fun j u hu => ?_)
        obtain ⟨ad', e', _, hc'⟩ := hown'.rd j u hu
        injection e' with e'
        subst e'
        exact hc'
    have hr := run_append_grow_src (P := P) w t tx ty e i z ht hi hz A n c xs hold x m news hs (by omega) (by omega) (growslice_fits (by omega) hbytes)
    have hge := grownCap_ge w (n + m) c e
    have hcm : grownCap w (n + m) c e ≤ maxLen := grownCap_le_maxLen w (n + m) c e h63
    refine ⟨_, _, hr, ⟨hlen, _, _, rfl, hge, hcm, .inr ⟨w.heap.size, _, rfl, hbase, heap_alloc_new w.drew _, ?_, ?_⟩⟩, ⟨rfl, rfl, rfl, by simp, fun k hk _ => Below.heap_alloc w.drew _ k hk⟩, .inr rfl⟩
    · rw [Array.size_append, List.size_toArray, size_zeroCells, hzs, hlen, ← Nat.add_mul]
      exact Nat.le_of_eq (by congr 1; omega)
    · rw [Array.toList_append, ← hlen]
      exact List.take_left

theorem wp_append_gen {o : Oper} {a : Act} {K : Act → World → Prop} {Q : Exit → Act → World → Prop} (s x : Operand) (t tx : TypeId)
    (ho : o.op = .call { callee := .builtin .append, args := #[s, x], argTypes := #[t, tx] })
    (base : Nat) (e : TypeId) (i : TypeInfo) (z : Value) (size bytes : Nat) (ht : P.underlying t = some (.slice e)) (hi : P.info? e = some i) (hz : i.zero = some z)
    (hsize : i.size = size) (hby : i.bytes = bytes) (hzs : z.cells.size = size)
    (v : Value) (n : Nat) (xs : List Value) (hs : a.eval s = v) (hown : Own w base e size v n xs)
    (y : Value) (m : Nat) (news : List Value) (hx : a.eval x = y) (hsrc : Src P size tx y m news w)
    (hbytes : (n + m) * bytes ≤ 140737488355328) (h63 : n + m ≤ maxLen) (hbase : base ≤ w.heap.size)
    (h : ∀ v' w', Own w' base e size v' (n + m) (xs ++ news) → Fr (fun k => v.ownBlock = some k) w w' → (v'.ownBlock = v.ownBlock ∨ v'.ownBlock = some w.heap.size) → K (a.put o.dst v') w') : o.wp P a w K Q := by
  obtain ⟨v', w', hrun, h2, h3, h4⟩ := run_append_gen (P := P) w base t tx o.type e i z size bytes ht hi hz hsize hby hzs v n xs hown y m news hsrc hbytes h63 hbase
  unfold Oper.wp execOp
  simp only [ho, resolve, invoke, builtin, Sem.run_bind, Sem.run_pure, Result.andThen_ok, List.map_toArray, List.map_cons, List.map_nil, hs, hx, hrun]
  exact h v' w' h2 h3 h4

theorem wpList_append_gen {ops : Array Oper} {rest : List Oper} {o : Oper} {a : Act} {Q : Exit → Act → World → Prop} (hgd : o.guard = none) (s x : Operand) (t tx : TypeId)
    (ho : o.op = .call { callee := .builtin .append, args := #[s, x], argTypes := #[t, tx] })
    (base : Nat) (e : TypeId) (i : TypeInfo) (z : Value) (size bytes : Nat) (ht : P.underlying t = some (.slice e)) (hi : P.info? e = some i) (hz : i.zero = some z)
    (hsize : i.size = size) (hby : i.bytes = bytes) (hzs : z.cells.size = size)
    (v : Value) (n : Nat) (xs : List Value) (hs : a.eval s = v) (hown : Own w base e size v n xs)
    (y : Value) (m : Nat) (news : List Value) (hx : a.eval x = y) (hsrc : Src P size tx y m news w)
    (hbytes : (n + m) * bytes ≤ 140737488355328) (h63 : n + m ≤ maxLen) (hbase : base ≤ w.heap.size)
    (h : ∀ v' w', Own w' base e size v' (n + m) (xs ++ news) → Fr (fun k => v.ownBlock = some k) w w' → (v'.ownBlock = v.ownBlock ∨ v'.ownBlock = some w.heap.size) → wpList P ops Q rest (a.put o.dst v') w') : wpList P ops Q (o :: rest) a w :=
  wpList_plain hgd fun _ hK => wp_append_gen w s x t tx ho base e i z size bytes ht hi hz hsize hby hzs v n xs hs hown y m news hx hsrc hbytes h63 hbase fun v' w' h2 h3 h4 => hK _ _ (h v' w' h2 h3 h4)

/-- the source: a slice that is read. -/
theorem Src.ofRd {size : Nat} {tx e' : TypeId} (hk : P.underlying tx = some (.slice e')) {B : Nat} (A : Option Addr) (n c : Nat) (news : List Value) (hl : news.length = n * size) (hsz : 0 < size) (hr : Rd w B A news)
    (h1 : ∀ u ∈ news, u.oneCell' = true) : Src P size tx (.slice A n c) n news w := by
  cases A with
  | none =>
    have h0 : news = [] := by
      cases news with
      | nil => rfl
      | cons u us => obtain ⟨_, h, _⟩ := hr 0 u rfl; cases h
    subst h0
    have hn : n = 0 := by
      rcases Nat.mul_eq_zero.1 hl.symm with h | h
      · exact h
      · omega
    subst hn
    exact Src.ofNil w hk c
  | some ad =>
    refine Src.ofSlice w hk ad n c news hl (fun j u hu => ?_) h1
    obtain ⟨ad', h, _, hc⟩ := hr j u hu
    injection h with h
    subst h
    exact hc
/-- the source: one element, laid in a new block ('append(s, x)'). -/
theorem Src.one {tx e' e : TypeId} (hk : P.underlying tx = some (.slice e')) (v : Value) (h1 : v.oneCell' = true) : Src P 1 tx (.slice (some ⟨w.heap.size, 0, none⟩) 1 1) 1 [v] (w.alloc (.cells #[v] e)) :=
  Src.ofSlice _ hk _ 1 1 [v] rfl (fun j u hu => by
    cases j with
    | zero =>
      injection hu with hu
      subst hu
      rw [Addr.add_lit, cell_of_row _ w.heap.size (0 + 0) #[v] e (0, 0) (heap_alloc_new w _)]
      rfl
    | succ j => simp at hu) (fun u hu => by
    rw [List.mem_singleton] at hu
    subst hu
    exact h1)
end
end Go.Proofs.YtnjcncidlhllmaaGreat
namespace Go.Proofs.YtnjcncidlhllmaaGreat
set_option linter.unusedVariables false
set_option linter.unusedSimpArgs false
open Go.RowKit

/-- bytes as cells. -/
def by8 (bs : List UInt8) : List Value := bs.map fun b => .int .u8 b.toNat
theorem by8_length (bs : List UInt8) : (by8 bs).length = bs.length := by simp [by8]
theorem by8_get (bs : List UInt8) (k : Nat) (h : k < bs.length) : (by8 bs)[k]? = some (.int .u8 ((bs.getD k 0).toNat : Nat)) := by
  simp [by8, List.getElem?_map, List.getElem?_eq_getElem h]
theorem by8_one (bs : List UInt8) : ∀ u ∈ by8 bs, u.oneCell' = true := by
  intro u hu
  obtain ⟨_, _, rfl⟩ := List.mem_map.1 hu
  rfl
theorem by8_append (a b : List UInt8) : by8 (a ++ b) = by8 a ++ by8 b := by simp [by8]
theorem by8_take (a : List UInt8) (k : Nat) : by8 (a.take k) = (by8 a).take k := by simp [by8, List.map_take]
theorem by8_drop (a : List UInt8) (k : Nat) : by8 (a.drop k) = (by8 a).drop k := by simp [by8, List.map_drop]
theorem by8_inj {a b : List UInt8} (h : by8 a = by8 b) : a = b := by
  induction a generalizing b with
  | nil => cases b with
    | nil => rfl
    | cons y ys => simp [by8] at h
  | cons x xs ih =>
    cases b with
    | nil => simp [by8] at h
    | cons y ys =>
      simp only [by8, List.map_cons, List.cons.injEq, Value.int.injEq, true_and] at h
      rw [ih (by simpa [by8] using h.2)]
      have h1 : x.toNat = y.toNat := by omega
      rw [UInt8.toNat_inj.1 h1]
theorem Rd.byte {w : World} {B : Nat} {A : Option Addr} {bs : List UInt8} (h : Rd w B A (by8 bs)) {k : Nat} (hk : k < bs.length) :
    ∃ ad, A = some ad ∧ ad.block < B ∧ w.cell? (ad.add k) = some (.int .u8 ((bs.getD k 0).toNat : Nat)) := h k _ (by8_get bs k hk)

/-- the number at the head of bytes, i bytes in, acc gathered. -/
def dec (i acc : Nat) : List UInt8 → Option (Nat × Nat)
  | [] => none
  | b :: r => if 9 < i then none else if i = 9 ∧ 1 < b.toNat % 128 then none else
      if b.toNat < 128 then (if b.toNat = 0 ∧ 0 < i then none else some (acc + b.toNat % 128 * 2 ^ (7 * i), i + 1))
      else dec (i + 1) (acc + b.toNat % 128 * 2 ^ (7 * i)) r
def numV : Option (Nat × Nat) → Value
  | none => .tuple #[.int .u64 0, .int .i64 (-1)]
  | some (u, k) => .tuple #[.int .u64 u, .int .i64 k]

theorem dec_drop {bs : List UInt8} {k v : Nat} (h : k < bs.length) : dec k v (bs.drop k) = dec k v (bs.getD k 0 :: bs.drop (k + 1)) := by
  rw [List.drop_eq_getElem_cons h]
  simp [List.getElem?_eq_getElem h]
theorem dec_end {bs : List UInt8} {k v : Nat} (h : bs.length ≤ k ∨ 10 ≤ k) : dec k v (bs.drop k) = none := by
  rcases h with h | h
  · rw [List.drop_eq_nil_of_le h]; rfl
  · cases bs.drop k with
    | nil => rfl
    | cons b r => rw [dec, if_pos (by omega)]
theorem dec_bad9 {bs : List UInt8} {k v : Nat} (h : k < bs.length) (h9 : k = 9 ∧ 1 < (bs.getD k 0).toNat % 128) : dec k v (bs.drop k) = none := by
  rw [dec_drop h, dec, if_neg (by omega), if_pos h9]
theorem dec_stop {bs : List UInt8} {k v : Nat} (h : k < bs.length) (hk : k < 10) (h9 : ¬ (k = 9 ∧ 1 < (bs.getD k 0).toNat % 128)) (hb : (bs.getD k 0).toNat < 128) (h0 : ¬ ((bs.getD k 0).toNat = 0 ∧ 0 < k)) :
    dec k v (bs.drop k) = some (v + (bs.getD k 0).toNat % 128 * 2 ^ (7 * k), k + 1) := by
  rw [dec_drop h, dec, if_neg (by omega), if_neg h9, if_pos hb, if_neg h0]
theorem dec_bad0 {bs : List UInt8} {k v : Nat} (h : k < bs.length) (hb : (bs.getD k 0).toNat = 0) (h0 : 0 < k) : dec k v (bs.drop k) = none := by
  rw [dec_drop h, dec]
  by_cases hk : 9 < k
  · rw [if_pos hk]
  · rw [if_neg hk]
    by_cases h9 : k = 9 ∧ 1 < (bs.getD k 0).toNat % 128
    · rw [if_pos h9]
    · rw [if_neg h9, if_pos (by omega), if_pos ⟨hb, h0⟩]
theorem dec_more {bs : List UInt8} {k v : Nat} (h : k < bs.length) (hk : k < 10) (h9 : ¬ (k = 9 ∧ 1 < (bs.getD k 0).toNat % 128)) (hb : ¬ (bs.getD k 0).toNat < 128) :
    dec k v (bs.drop k) = dec (k + 1) (v + (bs.getD k 0).toNat % 128 * 2 ^ (7 * k)) (bs.drop (k + 1)) := by
  rw [dec_drop h, dec, if_neg (by omega), if_neg h9, if_neg hb]

theorem pow7 (k : Nat) : 2 ^ (7 * (k + 1)) = 128 * 2 ^ (7 * k) := by
  rw [Nat.mul_add, Nat.pow_add, Nat.mul_comm]
theorem acc_lt {v x k : Nat} (h : v < 2 ^ (7 * k)) (hx : x < 128) : v + x * 2 ^ (7 * k) < 2 ^ (7 * (k + 1)) := by
  rw [pow7]
  have : x * 2 ^ (7 * k) ≤ 127 * 2 ^ (7 * k) := Nat.mul_le_mul_right _ (by omega)
  omega
theorem or_shift {v k : Nat} (h : v < 2 ^ k) (g : Nat) : v ||| g * 2 ^ k = v + g * 2 ^ k := by
  rw [Nat.or_comm, Nat.mul_comm, ← Nat.two_pow_add_eq_or_of_lt h, Nat.add_comm]
theorem and_127 (b : UInt8) : bits .and .u8 (b.toNat : Int) 127 = ((b.toNat % 128 : Nat) : Int) := by
  have h := b.toNat_lt
  generalize b.toNat = x at h
  revert h
  revert x
  decide +kernel
end Go.Proofs.YtnjcncidlhllmaaGreat
namespace Go.Proofs.YtnjcncidlhllmaaGreat
set_option linter.unusedVariables false
set_option linter.unusedSimpArgs false
open Go.RowKit

/-- a store into a slice of the call's own (elements of one cell). -/
theorem Own.store {w : World} {base e n c : Nat} {A : Option Addr} {xs : List Value} (h : Own w base e 1 (.slice A n c) n xs) {k : Nat} (hk : k < n) :
    ∃ g, A = some ⟨g, 0, none⟩ ∧ base ≤ g ∧ g < w.heap.size ∧ w.cell? ⟨g, k, none⟩ = xs[k]? ∧ w.frozen? ⟨g, k, none⟩ = false ∧
      ∀ v : Value, Own (w.setCell ⟨g, k, none⟩ v) base e 1 (.slice A n c) n (xs.set k v) := by
  obtain ⟨hl, A', c', hv, hn, hm, hA⟩ := h
  injection hv with h1 h2 h3
  subst h1; subst h3
  rcases hA with ⟨rfl, rfl⟩ | ⟨g, cur, rfl, hb, hh, hcs, ht⟩
  · omega
  · refine ⟨g, rfl, hb, (Array.getElem?_eq_some_iff.1 hh).1, ?_, by simp [World.frozen?, hh], ?_⟩
    · rw [cell_of_row w g k cur e (0, 0) hh, ← ht, List.getElem?_take, if_pos (by omega)]
      simp
    · intro v
      refine ⟨by rw [List.length_set]; exact hl, _, c, rfl, hn, hm, .inr ⟨g, cur.set! k v, rfl, hb, ?_, by simpa using hcs, ?_⟩⟩
      · simp [World.setCell, Array.getElem?_modify, hh]
      · rw [← ht]
        simp only [Array.set!_eq_setIfInBounds, Array.toList_setIfInBounds]
        rw [List.take_set]

section
variable {P : Program} (w : World)
/-- append onto a slice of the call's own, from whatever source. -/
theorem run_append_two (base : Nat) (t tx ty e : TypeId) (i : TypeInfo) (z : Value) (size bytes : Nat) (ht : P.underlying t = some (.slice e)) (hi : P.info? e = some i) (hz : i.zero = some z)
    (hsize : i.size = size) (hby : i.bytes = bytes) (hzs : z.cells.size = size)
    (v : Value) (n : Nat) (xs : List Value) (hown : Own w base e size v n xs) (x : Value) (m : Nat) (news : List Value) (hs : Src P size tx x m news w)
    (hbytes : (n + m) * bytes ≤ 140737488355328) (h63 : n + m ≤ maxLen) (hbase : base ≤ w.heap.size) :
    ∃ v' w', (Builtin.append_ #[t, tx] ty #[v, x]).run P w = .ok v' w' ∧ Own w' base e size v' (n + m) (xs ++ news) ∧ ((v'.ownBlock = v.ownBlock ∧ Fr (fun k => v.ownBlock = some k) w w') ∨ (v'.ownBlock = some w.heap.size ∧ Fr No w w')) := by
  subst hsize
  subst hby
  have hlen : (xs ++ news).length = (n + m) * i.size := by rw [List.length_append, hown.1, hs.newsLen, Nat.add_mul]
  have h63' : n + m ≤ 9223372036854775807 := by simp only [maxLen] at h63; omega
  have hown' := hown
  obtain ⟨hl, A, c, rfl, hc, hm, hA⟩ := hown
  by_cases hroom : n + m ≤ c
  · rcases hA with ⟨rfl, rfl⟩ | ⟨g, cur, rfl, hb, hh, hcs, htk⟩
    · have hn0 : n = 0 := by omega
      have hm0 : m = 0 := by omega
      subst hn0; subst hm0
      have h1 : xs = [] := List.eq_nil_of_length_eq_zero (by simpa using hl)
      have h2 : news = [] := List.eq_nil_of_length_eq_zero (by simpa using hs.newsLen)
      subst h1; subst h2
      refine ⟨.slice none 0 0, w, ?_, Own.nil _ _ _ _, .inl ⟨rfl, Fr.refl _ _⟩⟩
      rcases hs.kind with ⟨e', hk⟩ | hk <;> simp [Builtin.append_, run_underlying ht, run_underlying hk, sizeOf, typeInfo, hi, hs.len, hs.cells]
    · have hfit : n * i.size + news.length ≤ cur.size := by
        rw [hs.newsLen, ← Nat.add_mul]
        exact Nat.le_trans (Nat.mul_le_mul_right _ hroom) hcs
      have hst := run_storeCells_at P g (n * i.size) e news 0 cur w hh (by simpa using hfit) hs.one
      simp only [Nat.add_zero] at hst
      refine ⟨.slice (some ⟨g, 0, none⟩) (n + m) c, w.setRow g (cur.toList.take (n * i.size) ++ news ++ cur.toList.drop (n * i.size + news.length)).toArray, ?_, ⟨hlen, _, c, rfl, hroom, hm, .inr ⟨g, _, rfl, hb, setRow_heap w g cur _ e _ hh, ?_, ?_⟩⟩, .inl ⟨rfl, ⟨rfl, rfl, rfl, by simp, fun k _ hk => setRow_other w g k _ (fun e => hk (by simp [Value.ownBlock, e]))⟩⟩⟩
      · rcases hs.kind with ⟨e', hk⟩ | hk <;> simp [Builtin.append_, run_underlying ht, run_underlying hk, sizeOf, typeInfo, hi, hs.len, hroom, hs.cells, Addr.add_lit, hst]
      · simp only [List.size_toArray, List.length_append, List.length_take, List.length_drop, Array.length_toList]
        omega
      · rw [htk, ← hlen]
        exact List.take_left
  · have hold : (Builtin.firstCells i.size n (.slice A n c)).run P w.drew = .ok xs.toArray w.drew := by
      rcases A with _ | ad
      · have hn0 : n = 0 := by
          rcases hA with ⟨_, h0⟩ | ⟨g, _, h, _⟩
          · omega
          · cases h
        subst hn0
        have h1 : xs = [] := List.eq_nil_of_length_eq_zero (by simpa using hl)
        subst h1
        simp [run_firstCells_none]
      · refine run_firstCells_some (P := P) w.drew i.size n ad n c xs hl (fun j u hu => ?_)
        obtain ⟨ad', e', _, hc'⟩ := hown'.rd j u hu
        injection e' with e'
        subst e'
        exact hc'
    have hr := run_append_grow_src (P := P) w t tx ty e i z ht hi hz A n c xs hold x m news hs (by omega) (by omega) (growslice_fits (by omega) hbytes)
    have hge := grownCap_ge w (n + m) c e
    have hcm : grownCap w (n + m) c e ≤ maxLen := grownCap_le_maxLen w (n + m) c e h63
    refine ⟨_, _, hr, ⟨hlen, _, _, rfl, hge, hcm, .inr ⟨w.heap.size, _, rfl, hbase, heap_alloc_new w.drew _, ?_, ?_⟩⟩, .inr ⟨rfl, ⟨rfl, rfl, rfl, by simp, fun k hk _ => Below.heap_alloc w.drew _ k hk⟩⟩⟩
    · rw [Array.size_append, List.size_toArray, size_zeroCells, hzs, hlen, ← Nat.add_mul]
      exact Nat.le_of_eq (by congr 1; omega)
    · rw [Array.toList_append, ← hlen]
      exact List.take_left

theorem wp_append_two {o : Oper} {a : Act} {K : Act → World → Prop} {Q : Exit → Act → World → Prop} (s x : Operand) (t tx : TypeId)
    (ho : o.op = .call { callee := .builtin .append, args := #[s, x], argTypes := #[t, tx] })
    (base : Nat) (e : TypeId) (i : TypeInfo) (z : Value) (size bytes : Nat) (ht : P.underlying t = some (.slice e)) (hi : P.info? e = some i) (hz : i.zero = some z)
    (hsize : i.size = size) (hby : i.bytes = bytes) (hzs : z.cells.size = size)
    (v : Value) (n : Nat) (xs : List Value) (hs : a.eval s = v) (hown : Own w base e size v n xs)
    (y : Value) (m : Nat) (news : List Value) (hx : a.eval x = y) (hsrc : Src P size tx y m news w)
    (hbytes : (n + m) * bytes ≤ 140737488355328) (h63 : n + m ≤ maxLen) (hbase : base ≤ w.heap.size)
    (h : ∀ v' w', Own w' base e size v' (n + m) (xs ++ news) → ((v'.ownBlock = v.ownBlock ∧ Fr (fun k => v.ownBlock = some k) w w') ∨ (v'.ownBlock = some w.heap.size ∧ Fr No w w')) → K (a.put o.dst v') w') : o.wp P a w K Q := by
  obtain ⟨v', w', hrun, h2, h3⟩ := run_append_two (P := P) w base t tx o.type e i z size bytes ht hi hz hsize hby hzs v n xs hown y m news hsrc hbytes h63 hbase
  unfold Oper.wp execOp
  simp only [ho, resolve, invoke, builtin, Sem.run_bind, Sem.run_pure, Result.andThen_ok, List.map_toArray, List.map_cons, List.map_nil, hs, hx, hrun]
  exact h v' w' h2 h3

theorem wpList_append_two {ops : Array Oper} {rest : List Oper} {o : Oper} {a : Act} {Q : Exit → Act → World → Prop} (hgd : o.guard = none) (s x : Operand) (t tx : TypeId)
    (ho : o.op = .call { callee := .builtin .append, args := #[s, x], argTypes := #[t, tx] })
    (base : Nat) (e : TypeId) (i : TypeInfo) (z : Value) (size bytes : Nat) (ht : P.underlying t = some (.slice e)) (hi : P.info? e = some i) (hz : i.zero = some z)
    (hsize : i.size = size) (hby : i.bytes = bytes) (hzs : z.cells.size = size)
    (v : Value) (n : Nat) (xs : List Value) (hs : a.eval s = v) (hown : Own w base e size v n xs)
    (y : Value) (m : Nat) (news : List Value) (hx : a.eval x = y) (hsrc : Src P size tx y m news w)
    (hbytes : (n + m) * bytes ≤ 140737488355328) (h63 : n + m ≤ maxLen) (hbase : base ≤ w.heap.size)
    (h : ∀ v' w', Own w' base e size v' (n + m) (xs ++ news) → ((v'.ownBlock = v.ownBlock ∧ Fr (fun k => v.ownBlock = some k) w w') ∨ (v'.ownBlock = some w.heap.size ∧ Fr No w w')) → wpList P ops Q rest (a.put o.dst v') w') : wpList P ops Q (o :: rest) a w :=
  wpList_plain hgd fun _ hK => wp_append_two w s x t tx ho base e i z size bytes ht hi hz hsize hby hzs v n xs hs hown y m news hx hsrc hbytes h63 hbase fun v' w' h2 h3 => hK _ _ (h v' w' h2 h3)

end

theorem Own.mem {w : World} {base e n c : Nat} {A : Option Addr} {xs : List Value} (h : Own w base e 1 (.slice A n c) n xs) : A = none ∧ n = 0 ∨ ∃ g, A = some ⟨g, 0, none⟩ ∧ (Value.slice A n c).ownBlock = some g := by
  obtain ⟨hl, A', c', hv, hn, hm, hA⟩ := h
  injection hv with h1 h2 h3
  subst h1; subst h3
  rcases hA with ⟨rfl, rfl⟩ | ⟨g, cur, rfl, _⟩
  · exact .inl ⟨rfl, by omega⟩
  · exact .inr ⟨g, rfl, rfl⟩
end Go.Proofs.YtnjcncidlhllmaaGreat
namespace Go.Proofs.YtnjcncidlhllmaaGreat
set_option linter.unusedVariables false
set_option linter.unusedSimpArgs false
open Go.RowKit

theorem dec_lt : ∀ (bs : List UInt8) (i acc u k : Nat), acc < 2 ^ (7 * i) → dec i acc bs = some (u, k) → u < 18446744073709551616
  | [], i, acc, u, k, ha, h => by simp [dec] at h
  | b :: r, i, acc, u, k, ha, h => by
    rw [dec] at h
    split at h
    · cases h
    · rename_i hi
      split at h
      · cases h
      · rename_i h9
        have hx : b.toNat % 128 < 128 := Nat.mod_lt _ (by omega)
        have hal := acc_lt ha hx
        split at h
        · split at h
          · cases h
          · injection h with h; injection h with h1 h2
            subst h1
            by_cases hk : i = 9
            · subst hk
              have e : (2 : Nat) ^ (7 * 9) = 9223372036854775808 := by decide
              rw [e] at ha ⊢
              have : ¬ 1 < b.toNat % 128 := fun h => h9 ⟨rfl, h⟩
              omega
            · have h2 : 2 ^ (7 * (i + 1)) ≤ 2 ^ 63 := Nat.pow_le_pow_right (by omega) (by omega)
              omega
        · exact dec_lt r _ _ u k hal h

/-- how a number is put: with so many rounds at most. -/
def encF : Nat → Nat → List UInt8
  | 0, u => [UInt8.ofNat u]
  | f + 1, u => if 127 < u then UInt8.ofNat (u % 128 + 128) :: encF f (u / 128) else [UInt8.ofNat u]
def enc (u : Nat) : List UInt8 := encF 9 u

theorem ofNat_toNat {x : Nat} (h : x < 256) : (UInt8.ofNat x).toNat = x := by
  rw [UInt8.toNat_ofNat']
  exact Nat.mod_eq_of_lt (by omega)

theorem encF_len : ∀ (f u : Nat), 1 ≤ (encF f u).length ∧ (encF f u).length ≤ f + 1
  | 0, u => by simp [encF]
  | f + 1, u => by
    rw [encF]
    split
    · have := encF_len f (u / 128); simp; omega
    · simp

/-- reading undoes putting, whatever stands behind. -/
theorem dec_encF : ∀ (f u i acc : Nat) (rest : List UInt8), f + i = 9 → u * 2 ^ (7 * i) < 18446744073709551616 → (0 < i → 0 < u) → dec i acc (encF f u ++ rest) = some (acc + u * 2 ^ (7 * i), i + (encF f u).length)
  | 0, u, i, acc, rest, hf, hu, h0 => by
    have hi : i = 9 := by omega
    subst hi
    have e : (2 : Nat) ^ (7 * 9) = 9223372036854775808 := by decide
    rw [e] at hu
    have hu1 : u ≤ 1 := by omega
    simp only [encF, List.cons_append, List.nil_append, List.length_cons, List.length_nil]
    rw [dec, ofNat_toNat (by omega), if_neg (by omega), if_neg (by omega), if_pos (by omega), if_neg (by omega)]
    rw [Nat.mod_eq_of_lt (by omega)]
  | f + 1, u, i, acc, rest, hf, hu, h0 => by
    rw [encF]
    split
    · rename_i hbig
      have hx : u % 128 < 128 := Nat.mod_lt _ (by omega)
      have ih := dec_encF f (u / 128) (i + 1) (acc + u % 128 * 2 ^ (7 * i)) rest (by omega) (by
        rw [pow7]
        have h1 : u / 128 * (128 * 2 ^ (7 * i)) = (u / 128 * 128) * 2 ^ (7 * i) := by rw [Nat.mul_assoc]
        rw [h1]
        have : u / 128 * 128 ≤ u := by omega
        exact Nat.lt_of_le_of_lt (Nat.mul_le_mul_right _ this) hu) (by omega)
      rw [List.cons_append, dec, ofNat_toNat (by omega), if_neg (by omega), if_neg (by omega), if_neg (by omega)]
      have e1 : (u % 128 + 128) % 128 = u % 128 := by omega
      rw [e1, ih, pow7]
      have e2 : acc + u % 128 * 2 ^ (7 * i) + u / 128 * (128 * 2 ^ (7 * i)) = acc + u * 2 ^ (7 * i) := by
        rw [← Nat.mul_assoc, Nat.add_assoc, ← Nat.add_mul]
        congr 2
        omega
      rw [e2]
      simp
      omega
    · rename_i hs
      rw [List.cons_append, dec, ofNat_toNat (by omega), if_neg (by omega), if_neg (by omega), if_pos (by omega), if_neg (by omega), Nat.mod_eq_of_lt (by omega)]
      simp
theorem dec_enc (u : Nat) (hu : u < 18446744073709551616) (rest : List UInt8) : dec 0 0 (enc u ++ rest) = some (u, (enc u).length) := by
  have h := dec_encF 9 u 0 0 rest (by omega) (by simpa using hu) (by omega)
  simpa [enc] using h

/-- what is read as a number is what would be put. -/
theorem encF_dec : ∀ (bs : List UInt8) (f i acc u k : Nat), f + i = 9 → acc < 2 ^ (7 * i) → dec i acc bs = some (u, k) →
    ∃ y, u = acc + y * 2 ^ (7 * i) ∧ (0 < i → 0 < y) ∧ encF f y = bs.take (k - i)
  | [], f, i, acc, u, k, hf, ha, h => by simp [dec] at h
  | b :: r, f, i, acc, u, k, hf, ha, h => by
    have hb := b.toNat_lt
    rw [dec] at h
    split at h
    · cases h
    · rename_i hi
      split at h
      · cases h
      · rename_i h9
        have hx : b.toNat % 128 < 128 := Nat.mod_lt _ (by omega)
        split at h
        · rename_i hs
          split at h
          · cases h
          · rename_i h0
            injection h with h; injection h with h1 h2
            subst h1; subst h2
            refine ⟨b.toNat % 128, rfl, fun h => by omega, ?_⟩
            have e : b.toNat % 128 = b.toNat := Nat.mod_eq_of_lt hs
            have e3 : i + 1 - i = 1 := by omega
            rw [e, e3]
            cases f with
            | zero => simp [encF]
            | succ f => rw [encF, if_neg (by omega)]; simp
        · rename_i hs
          cases f with
          | zero =>
            -- i = 9: the next one is beyond
            have hi9 : i = 9 := by omega
            subst hi9
            cases r with
            | nil => simp [dec] at h
            | cons b' r' => rw [dec, if_pos (by omega)] at h; cases h
          | succ f =>
            obtain ⟨y, hy, hpos, he⟩ := encF_dec r f (i + 1) _ u k (by omega) (acc_lt ha hx) h
            have hk := hpos (by omega)
            refine ⟨b.toNat % 128 + y * 128, ?_, fun _ => by omega, ?_⟩
            · rw [hy, pow7, Nat.add_mul, Nat.add_assoc, Nat.mul_assoc]
            · have hkk : ∃ j, k - i = j + 1 ∧ k - (i + 1) = j := by
                rcases Nat.lt_or_ge i k with h1 | h1
                · exact ⟨k - (i + 1), by omega, rfl⟩
                · exfalso
                  have e0 : k - (i + 1) = 0 := by omega
                  rw [e0] at he
                  have := (encF_len f y).1
                  rw [he] at this
                  simp at this
              obtain ⟨j, hj1, hj2⟩ := hkk
              rw [hj2] at he
              rw [hj1, List.take_succ_cons, encF, if_pos (by omega)]
              have e1 : (b.toNat % 128 + y * 128) % 128 + 128 = b.toNat := by omega
              have e2 : (b.toNat % 128 + y * 128) / 128 = y := by omega
              rw [e1, e2, he]
              simp
theorem enc_dec {bs : List UInt8} {u k : Nat} (h : dec 0 0 bs = some (u, k)) : enc u = bs.take k := by
  obtain ⟨y, hy, _, he⟩ := encF_dec bs 9 0 0 u k (by omega) (by decide) h
  have : u = y := by simpa using hy
  subst this
  simpa [enc] using he

/-- signed numbers, turned. -/
def zz (n : Int) : Nat := if 0 ≤ n then (2 * n).toNat else (-2 * n - 1).toNat
def unzz (u : Nat) : Int := if u % 2 = 0 then ((u / 2 : Nat) : Int) else -((u / 2 : Nat) : Int) - 1
theorem unzz_zz (n : Int) : unzz (zz n) = n := by
  unfold unzz zz
  split <;> split <;> omega
theorem zz_unzz (u : Nat) : zz (unzz u) = u := by
  unfold unzz zz
  split <;> split <;> omega
theorem zz_lt {n : Int} (h1 : -9223372036854775808 ≤ n) (h2 : n ≤ 9223372036854775807) : zz n < 18446744073709551616 := by
  unfold zz; split <;> omega
theorem unzz_bd {u : Nat} (h : u < 18446744073709551616) : -9223372036854775808 ≤ unzz u ∧ unzz u ≤ 9223372036854775807 := by
  unfold unzz; split <;> omega
theorem xor_zz {u : Nat} (h : u < 18446744073709551616) : bits .xor .i64 (wrap64 ((u : Int) / 2)) (wrap64 (-wrap64 (bits .and .u64 (u : Int) 1))) = unzz u := by
  have e1 : bits .and .u64 (u : Int) 1 = ((u % 2 : Nat) : Int) := by
    have := u64_and_nat u 1 h (by omega)
    simpa [Nat.and_one_is_mod] using this
  have e2 : wrap64 ((u : Int) / 2) = ((u / 2 : Nat) : Int) := by rw [IntWalk.wrap64_in _ (by omega)]; omega
  rw [e1, e2]
  have hx : u / 2 < 2 ^ 63 := by omega
  have hb : (BitVec.ofInt 64 ((u / 2 : Nat) : Int)).toNat = u / 2 := by
    rw [BitVec.ofInt_natCast, BitVec.toNat_ofNat]; exact Nat.mod_eq_of_lt (by omega)
  unfold unzz
  rcases Nat.mod_two_eq_zero_or_one u with h0 | h0
  · rw [h0, if_pos rfl]
    have e3 : wrap64 (-wrap64 ((0 : Nat) : Int)) = 0 := by unfold wrap64; omega
    rw [e3]
    show IntKind.i64.wrap ((BitVec.ofInt 64 ((u / 2 : Nat) : Int) ^^^ BitVec.ofInt 64 0).toNat : Int) = _
    have e4 : BitVec.ofInt 64 0 = 0#64 := by decide
    rw [e4, BitVec.xor_zero, hb, IntWalk.i64_in _ (by omega)]
  · rw [h0, if_neg (by omega)]
    have e3 : wrap64 (-wrap64 ((1 : Nat) : Int)) = -1 := by unfold wrap64; omega
    rw [e3]
    show IntKind.i64.wrap ((BitVec.ofInt 64 ((u / 2 : Nat) : Int) ^^^ BitVec.ofInt 64 (-1)).toNat : Int) = _
    have e4 : BitVec.ofInt 64 (-1) = BitVec.allOnes 64 := by decide
    rw [e4, BitVec.xor_allOnes, BitVec.toNat_not, hb, IntKind.wrap_i64]
    omega
theorem or_128 (y : Nat) : bits .or .u8 ((y : Int) % 256) 128 = (((UInt8.ofNat (y % 128 + 128)).toNat : Nat) : Int) := by
  have e : (y : Int) % 256 = ((y % 256 : Nat) : Int) := by omega
  rw [e, ofNat_toNat (by omega)]
  have h : y % 128 = (y % 256) % 128 := by omega
  have hlt : y % 256 < 256 := Nat.mod_lt _ (by omega)
  rw [h]
  generalize y % 256 = x at hlt
  revert hlt
  revert x
  decide +kernel
theorem wrap_u8 (y : Nat) (h : y ≤ 127) : IntKind.u8.wrap (y : Int) = (((UInt8.ofNat y).toNat : Nat) : Int) := by
  rw [IntWalk.u8_in _ (by omega), ofNat_toNat (by omega)]
theorem zz_bits {n : Int} (h1 : -9223372036854775808 ≤ n) (h2 : n ≤ 9223372036854775807) : bits .xor .u64 (IntKind.u64.wrap (wrap64 (n * 2))) (IntKind.u64.wrap (n / 9223372036854775808)) = (zz n : Int) := by
  unfold zz
  split
  · rename_i h0
    have e1 : IntKind.u64.wrap (wrap64 (n * 2)) = ((2 * n.toNat : Nat) : Int) := by rw [IntKind.wrap_u64]; unfold wrap64; omega
    have e2 : IntKind.u64.wrap (n / 9223372036854775808) = ((0 : Nat) : Int) := by
      have : n / 9223372036854775808 = 0 := by omega
      rw [this]; decide
    rw [e1, e2, u64_xor_nat _ _ (by omega) (by omega), Nat.xor_zero]
    omega
  · rename_i h0
    have e1 : IntKind.u64.wrap (wrap64 (n * 2)) = ((18446744073709551616 - 2 * (-n).toNat : Nat) : Int) := by rw [IntKind.wrap_u64]; unfold wrap64; omega
    have e2 : IntKind.u64.wrap (n / 9223372036854775808) = ((18446744073709551615 : Nat) : Int) := by
      have : n / 9223372036854775808 = -1 := by omega
      rw [this]; decide
    rw [e1, e2]
    have e3 := ofInt_u64 (18446744073709551616 - 2 * (-n).toNat) (by omega)
    show IntKind.u64.wrap ((BitVec.ofInt 64 ((18446744073709551616 - 2 * (-n).toNat : Nat) : Int) ^^^ BitVec.ofInt 64 ((18446744073709551615 : Nat) : Int)).toNat : Int) = _
    have e4 : BitVec.ofInt 64 ((18446744073709551615 : Nat) : Int) = BitVec.allOnes 64 := by decide
    rw [e4, BitVec.xor_allOnes, BitVec.toNat_not, e3, IntKind.wrap_u64]
    omega
end Go.Proofs.YtnjcncidlhllmaaGreat
namespace Go.Proofs.YtnjcncidlhllmaaGreat
set_option linter.unusedVariables false
set_option linter.unusedSimpArgs false
open Go.RowKit

def Ret (v : Value) (w : World) (en : Ending) (w' : World) : Prop := en = .returned v ∧ w = w'

/-- quiet: a value; nothing has changed but the draws. -/
def RetQ (v : Value) (w : World) (en : Ending) (w' : World) : Prop := en = .returned v ∧ ∃ n, w' = w.drewN n

/-- a bool, and nothing that was there has changed. -/
def RetB (b : Bool) (w : World) (en : Ending) (w' : World) : Prop := en = .returned (.bool b) ∧ Fr No w w'

def RetF (v : Value) (w : World) (en : Ending) (w' : World) : Prop := en = .returned v ∧ Fr No w w'

theorem Tryz.info5 : (Tryz.prog.info? 5).map (fun i => (i.zero, i.size, i.bytes)) = some (some (.int .u8 0), 1, 1) := by kernel_rfl

/-- new bytes. -/
def GivesB (w : World) (bs : List UInt8) (en : Ending) (w' : World) : Prop := ∃ v, en = .returned v ∧ Own w' w.heap.size 5 1 v bs.length (by8 bs) ∧ Fr No w w'

theorem own_empty (w : World) (e : TypeId) : Own (w.alloc (.cells #[] e)) w.heap.size e 1 (.slice (some ⟨w.heap.size, 0, none⟩) 0 0) 0 [] :=
  ⟨by simp, _, 0, rfl, Nat.le_refl _, Nat.zero_le _, .inr ⟨w.heap.size, #[], rfl, Nat.le_refl _, heap_alloc_new w _, by simp, by simp⟩⟩

theorem Rd.len0 {w : World} {B : Nat} {bs : List UInt8} (h : Rd w B none (by8 bs)) : bs = [] := by
  cases bs with
  | nil => rfl
  | cons b r => obtain ⟨_, e, _⟩ := h 0 _ rfl; cases e

/-- a new block of bytes, read. -/
theorem Rd.new8 (w : World) (cs : Array Value) (bs : List UInt8) (e : TypeId) (h : cs.toList = by8 bs) : Rd (w.alloc (.cells cs e)) (w.alloc (.cells cs e)).heap.size (some ⟨w.heap.size, 0, none⟩) (by8 bs) := by
  intro j u hu
  refine ⟨_, rfl, by simp, ?_⟩
  rw [Addr.add_lit, Nat.zero_add, cell_of_row _ w.heap.size j cs e (0, 0) (heap_alloc_new w _)]
  rw [← h] at hu
  simpa using hu

theorem give_slice {W w' : World} {en : Ending} {t : List UInt8} {k : Nat} (hk : t.length = k) (h : GivesB W t en w') :
    ∃ A1 c1, en = .returned (.slice A1 k c1) ∧ k ≤ c1 ∧ c1 ≤ maxLen ∧ Rd w' w'.heap.size A1 (by8 t) ∧ Fr No W w' := by
  subst hk
  obtain ⟨v, rfl, ho, hf⟩ := h
  obtain ⟨A1, c1, rfl, h1, h2, _, h3, _⟩ := ho.form
  exact ⟨A1, c1, rfl, h1, h2, h3, hf⟩

theorem Fr.own1 {a b c : World} {g : Nat} (h : Fr No a b) (k : Fr (Is g) b c) (hg : a.heap.size ≤ g) : Fr No a c :=
  h.trans k (fun i hi e => by have : i = g := e; omega)

theorem box0 (w : World) (v : Value) (t : TypeId) : (w.alloc (.cells #[v] t)).cell? ⟨w.heap.size, 0, none⟩ = some v :=
  cell_of_row _ w.heap.size 0 #[v] t (0, 0) (heap_alloc_new w _)

theorem box1 (w : World) (v1 v2 : Value) (t1 t2 : TypeId) : ((w.alloc (.cells #[v1] t1)).alloc (.cells #[v2] t2)).cell? ⟨w.heap.size, 0, none⟩ = some v1 :=
  cell_of_row _ w.heap.size 0 #[v1] t1 (0, 0) ((Below.heap_alloc (w.alloc (.cells #[v1] t1)) _ w.heap.size (by simp)).trans (heap_alloc_new w _))

theorem box2 (w : World) (v1 v2 : Value) (t1 t2 : TypeId) : ((w.alloc (.cells #[v1] t1)).alloc (.cells #[v2] t2)).cell? ⟨w.heap.size + 1, 0, none⟩ = some v2 := by
  have h := heap_alloc_new (w.alloc (.cells #[v1] t1)) (.cells #[v2] t2)
  have e : (w.alloc (.cells #[v1] t1)).heap.size = w.heap.size + 1 := by simp
  rw [e] at h
  exact cell_of_row _ (w.heap.size + 1) 0 #[v2] t2 (0, 0) h

theorem take_succ_eq {xs ys : List UInt8} {k : Nat} (h1 : k < xs.length) (h2 : k < ys.length) (h : xs.take k = ys.take k) (he : xs.getD k 0 = ys.getD k 0) : xs.take (k + 1) = ys.take (k + 1) := by
  rw [List.take_succ_eq_append_getElem h1, List.take_succ_eq_append_getElem h2, h]
  simp [List.getElem?_eq_getElem h1, List.getElem?_eq_getElem h2] at he
  rw [he]

theorem take_snoc8 {l : List UInt8} {k : Nat} (h : k < l.length) : l.take (k + 1) = l.take k ++ [l.getD k 0] := by
  rw [List.take_succ_eq_append_getElem h]
  simp [List.getElem?_eq_getElem h]

theorem byteCells_by8 (s : ByteArray) : (byteCells s : List Value) = by8 s.data.toList := by simp [byteCells, by8]

end Go.Proofs.YtnjcncidlhllmaaGreat
namespace Go.Proofs.YtnjcncidlhllmaaGreat
set_option linter.unusedVariables false
set_option linter.unusedSimpArgs false
open Go.RowKit

def wN (f : Nat → Bool) : Nat → Nat
  | 0 => 0
  | k + 1 => wN f k + if f k = true then 2 ^ k else 0
theorem wN_lt (f : Nat → Bool) : ∀ k, wN f k < 2 ^ k
  | 0 => by simp [wN]
  | k + 1 => by
    have := wN_lt f k
    rw [wN, Nat.pow_succ]
    split <;> omega
theorem wN_bit (f : Nat → Bool) : ∀ k j, (wN f k).testBit j = (decide (j < k) && f j)
  | 0, j => by simp [wN]
  | k + 1, j => by
    have hl := wN_lt f k
    have ih := wN_bit f k j
    rw [wN]
    by_cases hj : k < j
    · have h2 : (2 : Nat) ^ (k + 1) ≤ 2 ^ j := Nat.pow_le_pow_right (by omega) hj
      rw [Nat.testBit_lt_two_pow (by rw [Nat.pow_succ] at h2; split <;> omega), decide_eq_false (by omega)]
      rfl
    · by_cases hf : f k = true
      · rw [if_pos hf, Nat.add_comm]
        by_cases hjk : j = k
        · subst hjk
          rw [Nat.testBit_two_pow_add_eq, ih, hf]
          simp
        · rw [Nat.testBit_two_pow_add_gt (by omega), ih, decide_eq_true (by omega), decide_eq_true (by omega)]
      · rw [if_neg hf, Nat.add_zero, ih]
        by_cases hjk : j = k
        · subst hjk
          simp [hf]
        · rw [decide_eq_true (by omega), decide_eq_true (by omega)]
theorem wN_ext {n k : Nat} {f : Nat → Bool} (hn : n < 2 ^ k) (h : ∀ j, j < k → n.testBit j = f j) : n = wN f k := by
  apply Nat.eq_of_testBit_eq
  intro j
  rw [wN_bit]
  by_cases hj : j < k
  · rw [h j hj, decide_eq_true hj]; rfl
  · rw [decide_eq_false hj, Nat.testBit_lt_two_pow (Nat.lt_of_lt_of_le hn (Nat.pow_le_pow_right (by omega) (by omega)))]
    rfl
theorem wN_congr {f g : Nat → Bool} : ∀ {k : Nat}, (∀ j, j < k → f j = g j) → wN f k = wN g k
  | 0, _ => rfl
  | k + 1, h => by rw [wN, wN, wN_congr (fun j hj => h j (by omega)), h k (by omega)]

/-- is number j held? -/
def hasN (l : List Bool) (j : Nat) : Bool := l.getD j false
theorem hasN_big {l : List Bool} {j : Nat} (h : l.length ≤ j) : hasN l j = false := by
  unfold hasN
  rw [List.getD_eq_getElem?_getD, List.getElem?_eq_none h]
  rfl
theorem hasN_set {l : List Bool} {i : Nat} {b : Bool} (hi : i < l.length) (j : Nat) : hasN (l.set i b) j = if j = i then b else hasN l j := by
  unfold hasN
  rw [List.getD_eq_getElem?_getD, List.getD_eq_getElem?_getD, List.getElem?_set]
  by_cases h : j = i
  · subst h; simp [hi]
  · rw [if_neg (fun e => h e.symm), if_neg h]
/-- word i of a row; its byte i. -/
def wd (l : List Bool) (i : Nat) : Nat := wN (fun j => hasN l (64 * i + j)) 64
theorem wd_lt (l : List Bool) (i : Nat) : wd l i < 18446744073709551616 := wN_lt _ 64
theorem wd_bit (l : List Bool) (i j : Nat) : (wd l i).testBit j = (decide (j < 64) && hasN l (64 * i + j)) := wN_bit _ 64 j
def wcount (n : Nat) : Nat := (n + 63) / 64
def wds (l : List Bool) : List Value := (List.range (wcount l.length)).map fun i => Value.int .u64 (wd l i : Nat)
theorem wds_len (l : List Bool) : (wds l).length = wcount l.length := by simp [wds]
theorem wds_at (l : List Bool) {i : Nat} (h : i < wcount l.length) : (wds l)[i]? = some (.int .u64 (wd l i : Nat)) := by
  simp [wds, List.getElem?_range h]
theorem wd_set {l : List Bool} {i : Nat} {b : Bool} (hi : i < l.length) {k : Nat} (hk : k ≠ i / 64) : wd (l.set i b) k = wd l k := by
  unfold wd
  apply wN_congr
  intro j hj
  rw [hasN_set hi, if_neg (by omega)]
theorem wd_on {l : List Bool} {i : Nat} (hi : i < l.length) : wd l (i / 64) ||| 2 ^ (i % 64) = wd (l.set i true) (i / 64) := by
  refine wN_ext (Nat.or_lt_two_pow (wd_lt _ _) (Nat.pow_lt_pow_right (by omega) (by omega))) ?_
  intro j hj
  rw [Nat.testBit_or, wd_bit, hasN_set hi, Nat.testBit_two_pow, decide_eq_true hj]
  by_cases h : i % 64 = j
  · rw [decide_eq_true h, if_pos (by omega)]; simp
  · rw [decide_eq_false h, if_neg (by omega)]; simp
theorem testBit_not64 {p j : Nat} (hp : p < 18446744073709551616) (hj : j < 64) : (18446744073709551615 - p).testBit j = !p.testBit j := by
  have h := Nat.testBit_two_pow_sub_succ (n := 64) (x := p) hp j
  rw [show (18446744073709551615 - p) = 2 ^ 64 - (p + 1) by omega, h, decide_eq_true hj]
  rfl
theorem wd_off {l : List Bool} {i : Nat} (hi : i < l.length) : wd l (i / 64) &&& (18446744073709551615 - 2 ^ (i % 64)) = wd (l.set i false) (i / 64) := by
  have hp : 2 ^ (i % 64) < 18446744073709551616 := Nat.pow_lt_pow_right (a := 2) (n := 64) (by omega) (by omega)
  refine wN_ext (Nat.lt_of_le_of_lt Nat.and_le_left (wd_lt _ _)) ?_
  intro j hj
  rw [Nat.testBit_and, wd_bit, hasN_set hi, testBit_not64 hp hj, Nat.testBit_two_pow, decide_eq_true hj]
  by_cases h : i % 64 = j
  · rw [decide_eq_true h, if_pos (by omega)]; simp
  · rw [decide_eq_false h, if_neg (by omega)]; simp
theorem wds_set {l : List Bool} {i : Nat} {b : Bool} (hi : i < l.length) {v : Nat} (hv : v = wd (l.set i b) (i / 64)) : (wds l).set (i / 64) (.int .u64 (v : Nat)) = wds (l.set i b) := by
  subst hv
  apply List.ext_getElem
  · simp [wds]
  · intro k h1 h2
    have hk : k < wcount l.length := by simpa [wds] using h1
    by_cases e : i / 64 = k
    · subst e
      simp [wds]
    · rw [List.getElem_set_ne e]
      simp only [wds, List.getElem_map, List.getElem_range]
      rw [wd_set hi (fun h => e h.symm)]
theorem wd_none (n i : Nat) : wd (List.replicate n false) i = 0 := by
  apply Nat.eq_of_testBit_eq
  intro j
  rw [wd_bit, Nat.zero_testBit]
  have : hasN (List.replicate n false) (64 * i + j) = false := by
    unfold hasN
    rw [List.getD_eq_getElem?_getD, List.getElem?_replicate]
    split <;> rfl
  rw [this]
  simp
theorem wds_none (n : Nat) : wds (List.replicate n false) = List.replicate (wcount n) (.int .u64 0) := by
  apply List.ext_getElem
  · simp [wds]
  · intro k h1 h2
    simp [wds, wd_none]
/-- bits shifted down. -/
theorem wd_shr (l : List Bool) (i : Nat) (j : Nat) : (wd l (i / 64) >>> (i % 64)).testBit j = (decide (i % 64 + j < 64) && hasN l (i + j)) := by
  rw [Nat.testBit_shiftRight, wd_bit]
  by_cases h : i % 64 + j < 64
  · rw [decide_eq_true h, show 64 * (i / 64) + (i % 64 + j) = i + j by omega]
  · rw [decide_eq_false h]; rfl
theorem wd_has (l : List Bool) (i : Nat) : (wd l (i / 64) >>> (i % 64)) % 2 = if hasN l i = true then 1 else 0 := by
  have h := wd_shr l i 0
  rw [Nat.testBit_zero, Nat.add_zero, Nat.add_zero, decide_eq_true (show i % 64 < 64 by omega), Bool.true_and] at h
  by_cases hb : hasN l i = true
  · rw [hb] at h
    rw [if_pos hb]
    exact of_decide_eq_true h
  · rw [if_neg hb]
    have h2 : hasN l i = false := by simpa using hb
    rw [h2] at h
    have := of_decide_eq_false h
    omega
end Go.Proofs.YtnjcncidlhllmaaGreat
namespace Go.Proofs.YtnjcncidlhllmaaGreat
set_option linter.unusedVariables false
set_option linter.unusedSimpArgs false
open Go.RowKit

def iz (k : IntKind) (l : List Int) : List Value := l.map (Value.int k)
theorem iz_len (k : IntKind) (l : List Int) : (iz k l).length = l.length := by simp [iz]
theorem iz_append (k : IntKind) (l m : List Int) : iz k (l ++ m) = iz k l ++ iz k m := by simp [iz]
theorem iz_take (k : IntKind) (l : List Int) (n : Nat) : iz k (l.take n) = (iz k l).take n := by simp [iz, List.map_take]
theorem iz_drop (k : IntKind) (l : List Int) (n : Nat) : iz k (l.drop n) = (iz k l).drop n := by simp [iz, List.map_drop]
theorem iz_one (k : IntKind) (l : List Int) : ∀ u ∈ iz k l, u.oneCell' = true := by
  intro u hu
  obtain ⟨x, _, rfl⟩ := List.mem_map.1 hu
  rfl
theorem iz_at (k : IntKind) (l : List Int) {j : Nat} (h : j < l.length) : (iz k l)[j]? = some (.int k (l.getD j 0)) := by
  simp [iz, h]
theorem Rd.intAt {w : World} {B : Nat} {A : Option Addr} {k : IntKind} {l : List Int} (h : Rd w B A (iz k l)) {j : Nat} (hj : j < l.length) : ∃ ad, A = some ad ∧ ad.block < B ∧ w.cell? (ad.add j) = some (.int k (l.getD j 0)) :=
  h j _ (iz_at k l hj)
theorem take_succ_int {xs ys : List Int} {k : Nat} (h1 : k < xs.length) (h2 : k < ys.length) (h : xs.take k = ys.take k) (he : xs.getD k 0 = ys.getD k 0) : xs.take (k + 1) = ys.take (k + 1) := by
  rw [List.take_succ_eq_append_getElem h1, List.take_succ_eq_append_getElem h2, h]
  simp [List.getElem?_eq_getElem h1, List.getElem?_eq_getElem h2] at he
  rw [he]
theorem take_snoc_int {l : List Int} {k : Nat} (h : k < l.length) : l.take (k + 1) = l.take k ++ [l.getD k 0] := by
  rw [List.take_succ_eq_append_getElem h]
  simp [List.getElem?_eq_getElem h]
theorem Rd.iz_nil {w : World} {B : Nat} {k : IntKind} {l : List Int} (h : Rd w B none (iz k l)) : l = [] := by
  cases l with
  | nil => rfl
  | cons b r => obtain ⟨_, e, _⟩ := h 0 _ rfl; cases e
end Go.Proofs.YtnjcncidlhllmaaGreat
