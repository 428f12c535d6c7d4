/- Several texts in one: BkTr, Mem3, Base, Slices8, Rd, SizeP, BytesP, Number, NumCut, TakeU, HasB. -/
import Derived.Test.YtpopbkcbplmcaaaGreatK1
import Derived.Deep.RegionWith
namespace Go.Proofs.YtpopbkcbplmcaaaGreat
set_option linter.unusedVariables false
set_option linter.unusedSimpArgs false

theorem lowP_mem_le (d : Nat) : ∀ (l : List Pt) (m : Int), ∀ p ∈ l, lowP d l m ≤ p.2.getD d 0
  | q :: r, m, p, hp => by
    rw [lowP]
    rcases List.mem_cons.1 hp with rfl | hp
    · refine Int.le_trans (lowP_le d r _) ?_; split <;> omega
    · exact lowP_mem_le d r _ p hp
theorem highP_mem_ge (d : Nat) : ∀ (l : List Pt) (m : Int), ∀ p ∈ l, p.2.getD d 0 ≤ highP d l m
  | q :: r, m, p, hp => by
    rw [highP]
    rcases List.mem_cons.1 hp with rfl | hp
    · refine Int.le_trans ?_ (highP_ge d r _); split <;> omega
    · exact highP_mem_ge d r _ p hp
theorem lowP_is (d : Nat) : ∀ (l : List Pt) (m : Int), lowP d l m = m ∨ ∃ p ∈ l, lowP d l m = p.2.getD d 0
  | [], m => .inl rfl
  | q :: r, m => by
    rw [lowP]
    rcases lowP_is d r (if q.2.getD d 0 < m then q.2.getD d 0 else m) with h | ⟨p, hp, h⟩
    · rw [h]
      split
      · exact .inr ⟨q, List.mem_cons_self, rfl⟩
      · exact .inl rfl
    · exact .inr ⟨p, List.mem_cons_of_mem _ hp, h⟩
theorem highP_is (d : Nat) : ∀ (l : List Pt) (m : Int), highP d l m = m ∨ ∃ p ∈ l, highP d l m = p.2.getD d 0
  | [], m => .inl rfl
  | q :: r, m => by
    rw [highP]
    rcases highP_is d r (if m < q.2.getD d 0 then q.2.getD d 0 else m) with h | ⟨p, hp, h⟩
    · rw [h]
      split
      · exact .inr ⟨q, List.mem_cons_self, rfl⟩
      · exact .inl rfl
    · exact .inr ⟨p, List.mem_cons_of_mem _ hp, h⟩
theorem getPt_mem {l : List Pt} {i : Nat} (h : i < l.length) : l.getD i noPt ∈ l := by
  rw [List.getD, List.getElem?_eq_getElem h]; exact List.getElem_mem _
/-- the least number of points that there are. -/
theorem lowP_first {d : Nat} {l : List Pt} (h : 0 < l.length) : ∃ p ∈ l, lowP d l ((l.getD 0 noPt).2.getD d 0) = p.2.getD d 0 := by
  rcases lowP_is d l ((l.getD 0 noPt).2.getD d 0) with h2 | h2
  · exact ⟨_, getPt_mem h, h2⟩
  · exact h2
theorem highP_first {d : Nat} {l : List Pt} (h : 0 < l.length) : ∃ p ∈ l, highP d l ((l.getD 0 noPt).2.getD d 0) = p.2.getD d 0 := by
  rcases highP_is d l ((l.getD 0 noPt).2.getD d 0) with h2 | h2
  · exact ⟨_, getPt_mem h, h2⟩
  · exact h2
theorem lowP_perm {d : Nat} {l m : List Pt} (h : l.Perm m) (h0 : 0 < l.length) : lowP d l ((l.getD 0 noPt).2.getD d 0) = lowP d m ((m.getD 0 noPt).2.getD d 0) := by
  have h1 : 0 < m.length := by rw [← h.length_eq]; exact h0
  obtain ⟨p, hp, e⟩ := lowP_first (d := d) h0
  obtain ⟨q, hq, f⟩ := lowP_first (d := d) h1
  have a := lowP_mem_le d l ((l.getD 0 noPt).2.getD d 0) q (h.mem_iff.2 hq)
  have b := lowP_mem_le d m ((m.getD 0 noPt).2.getD d 0) p (h.mem_iff.1 hp)
  omega
theorem highP_perm {d : Nat} {l m : List Pt} (h : l.Perm m) (h0 : 0 < l.length) : highP d l ((l.getD 0 noPt).2.getD d 0) = highP d m ((m.getD 0 noPt).2.getD d 0) := by
  have h1 : 0 < m.length := by rw [← h.length_eq]; exact h0
  obtain ⟨p, hp, e⟩ := highP_first (d := d) h0
  obtain ⟨q, hq, f⟩ := highP_first (d := d) h1
  have a := highP_mem_ge d l ((l.getD 0 noPt).2.getD d 0) q (h.mem_iff.2 hq)
  have b := highP_mem_ge d m ((m.getD 0 noPt).2.getD d 0) p (h.mem_iff.1 hp)
  omega
theorem farP_perm {d : Nat} {l m : List Pt} (h : l.Perm m) : farP d l = farP d m := by
  by_cases h0 : 0 < l.length
  · rw [farP, farP, lowP_perm h h0, highP_perm h h0]
  · have : l = [] := List.eq_nil_of_length_eq_zero (by omega)
    subst this
    rw [List.nil_perm.1 h]
theorem widF_perm {l m : List Pt} (h : l.Perm m) : ∀ k, widF l k = widF m k
  | 0 => rfl
  | k + 1 => by rw [widF, widF, widF_perm h k, farP_perm h, farP_perm (d := k) h]
theorem sortP_of_perm {d : Nat} {l m : List Pt} (h : l.Perm m) : sortP d l = sortP d m := sortP_uniq ((sortP_perm d l).trans h) (sortP_up d l)
theorem treeP_perm {dims : Nat} {l m : List Pt} (h : l.Perm m) : treeP dims l = treeP dims m := by
  by_cases h8 : l.length ≤ 8
  · rw [treeP_leaf h8, treeP_leaf (by rw [← h.length_eq]; exact h8), h.length_eq, sortP_of_perm h]
  · have h8m : ¬ m.length ≤ 8 := by rw [← h.length_eq]; exact h8
    obtain ⟨d, hd⟩ : ∃ d, d = widF l dims := ⟨_, rfl⟩
    obtain ⟨s, hs⟩ : ∃ s, s = sortP d l := ⟨_, rfl⟩
    obtain ⟨k, hk⟩ : ∃ k, k = (l.length + 1) / 2 := ⟨_, rfl⟩
    rw [treeP_cut h8 hd hs hk, treeP_cut (n := k) h8m (hd.trans (widF_perm h dims)) (hs.trans (sortP_of_perm h)) (by rw [hk, h.length_eq])]
theorem mayP_perm {dims : Int} {l m : List Pt} (h : l.Perm m) : mayP dims l ↔ mayP dims m := by
  unfold mayP
  rw [h.length_eq]
  simp only [h.mem_iff]
theorem buildT_perm {dims : Nat} {l m : List Pt} (h : l.Perm m) : buildT dims l = buildT dims m := by rw [buildT, buildT, h.length_eq, treeP_perm h]
/-- a tree. -/
inductive TreeT where
  | leaf (l : List Pt)
  | cut (d : Nat) (c : Int) (a b : TreeT)
def flatT : TreeT → List Pt
  | .leaf l => l
  | .cut _ _ a b => flatT a ++ flatT b
def treeT (dims : Nat) (l : List Pt) : TreeT :=
  if h : l.length ≤ 8 then .leaf (sortP 0 l)
  else .cut (widF l dims) (((sortP (widF l dims) l).getD ((l.length + 1) / 2) noPt).2.getD (widF l dims) 0) (treeT dims ((sortP (widF l dims) l).take ((l.length + 1) / 2))) (treeT dims ((sortP (widF l dims) l).drop ((l.length + 1) / 2)))
termination_by l.length
decreasing_by
  all_goals simp only [List.length_take, List.length_drop, sortP_len]; omega
theorem treeT_leaf {dims : Nat} {l : List Pt} (h : l.length ≤ 8) : treeT dims l = .leaf (sortP 0 l) := by rw [treeT, dif_pos h]
theorem treeT_cut {dims : Nat} {l : List Pt} (h : ¬ l.length ≤ 8) {d n : Nat} {s : List Pt} (hd : d = widF l dims) (hs : s = sortP d l) (hn : n = (l.length + 1) / 2) :
    treeT dims l = .cut d ((s.getD n noPt).2.getD d 0) (treeT dims (s.take n)) (treeT dims (s.drop n)) := by
  rw [treeT, dif_neg h, ← hd, ← hn, ← hs]
theorem flatT_perm (dims : Nat) : ∀ (n : Nat) (l : List Pt), l.length = n → (flatT (treeT dims l)).Perm l := by
  intro n
  induction n using Nat.strongRecOn with
  | ind n ih =>
    intro l hl
    by_cases h8 : l.length ≤ 8
    · rw [treeT_leaf h8]; exact sortP_perm 0 l
    · obtain ⟨d, hd⟩ : ∃ d, d = widF l dims := ⟨_, rfl⟩
      obtain ⟨s, hs⟩ : ∃ s, s = sortP d l := ⟨_, rfl⟩
      obtain ⟨k, hk⟩ : ∃ k, k = (l.length + 1) / 2 := ⟨_, rfl⟩
      have hsl : s.length = l.length := by rw [hs, sortP_len]
      rw [treeT_cut h8 hd hs hk, flatT]
      have a1 := ih k (by omega) (s.take k) (by rw [List.length_take]; omega)
      have a2 := ih (n - k) (by omega) (s.drop k) (by rw [List.length_drop]; omega)
      have h := a1.append a2
      rw [List.take_append_drop] at h
      exact h.trans (by rw [hs]; exact sortP_perm d l)
/-- is a point in a box? -/
def inB (low high : List Int) (p : Pt) : Bool := (List.range p.2.length).all fun d => decide (low.getD d 0 ≤ p.2.getD d 0) && decide (p.2.getD d 0 ≤ high.getD d 0)
theorem inB_iff {low high : List Int} {p : Pt} : inB low high p = true ↔ ∀ d, d < p.2.length → low.getD d 0 ≤ p.2.getD d 0 ∧ p.2.getD d 0 ≤ high.getD d 0 := by
  simp [inB]
def eachT (low high : List Int) : TreeT → List Pt
  | .leaf l => l.filter (inB low high)
  | .cut d c a b => (if low.getD d 0 ≤ c then eachT low high a else []) ++ (if c ≤ high.getD d 0 then eachT low high b else [])
theorem leP_head {d : Nat} {a b : Pt} (h : leP d a b = true) : a.2.getD d 0 ≤ b.2.getD d 0 := by
  rw [leP_iff] at h
  refine Int.not_lt.1 fun h2 => h ?_
  exact List.Lex.rel h2
theorem eachT_eq (dims : Nat) (low high : List Int) (h1 : 1 ≤ dims) : ∀ (n : Nat) (l : List Pt), l.length = n → (∀ p ∈ l, p.2.length = dims) → eachT low high (treeT dims l) = (flatT (treeT dims l)).filter (inB low high) := by
  intro n
  induction n using Nat.strongRecOn with
  | ind n ih =>
    intro l hl hp
    by_cases h8 : l.length ≤ 8
    · rw [treeT_leaf h8, eachT, flatT]
    · obtain ⟨d, hd⟩ : ∃ d, d = widF l dims := ⟨_, rfl⟩
      obtain ⟨s, hs⟩ : ∃ s, s = sortP d l := ⟨_, rfl⟩
      obtain ⟨k, hk⟩ : ∃ k, k = (l.length + 1) / 2 := ⟨_, rfl⟩
      have hsl : s.length = l.length := by rw [hs, sortP_len]
      have hsm : ∀ p ∈ s, p.2.length = dims := fun p h => hp p (sortP_mem.1 (by rw [← hs]; exact h))
      have hdd : d < dims := by rw [hd]; exact widF_lt l dims (by omega)
      rw [treeT_cut h8 hd hs hk, eachT, flatT]
      have a1 := ih k (by omega) (s.take k) (by rw [List.length_take]; omega) (fun p h => hsm p (List.mem_of_mem_take h))
      have a2 := ih (n - k) (by omega) (s.drop k) (by rw [List.length_drop]; omega) (fun p h => hsm p (List.mem_of_mem_drop h))
      have f1 := flatT_perm dims _ (s.take k) rfl
      have f2 := flatT_perm dims _ (s.drop k) rfl
      have hup : s.Pairwise (fun a b => leP d a b = true) := by rw [hs]; exact sortP_up d l
      have hks : k < s.length := by omega
      have hgd : s.getD k noPt = s[k] := by simp [List.getD, List.getElem?_eq_getElem hks]
      have c1 : ∀ p ∈ s.take k, p.2.getD d 0 ≤ (s.getD k noPt).2.getD d 0 := by
        intro p h
        obtain ⟨i, hi, rfl⟩ := List.getElem_of_mem h
        rw [List.length_take] at hi
        rw [List.getElem_take, hgd]
        exact leP_head (List.pairwise_iff_getElem.1 hup i k (by omega) hks (by omega))
      have c2 : ∀ p ∈ s.drop k, (s.getD k noPt).2.getD d 0 ≤ p.2.getD d 0 := by
        intro p h
        obtain ⟨i, hi, rfl⟩ := List.getElem_of_mem h
        rw [List.length_drop] at hi
        rw [List.getElem_drop, hgd]
        by_cases h0 : i = 0
        · subst h0; exact Int.le_refl _
        · exact leP_head (List.pairwise_iff_getElem.1 hup k (k + i) hks (by omega) (by omega))
      rw [List.filter_append]
      have g1 : (if low.getD d 0 ≤ (s.getD k noPt).2.getD d 0 then eachT low high (treeT dims (s.take k)) else []) = (flatT (treeT dims (s.take k))).filter (inB low high) := by
        split
        · exact a1
        · rename_i hn
          symm
          rw [List.filter_eq_nil_iff]
          intro p h hin
          have hpm := f1.mem_iff.1 h
          have := (inB_iff.1 hin d (by rw [hsm p (List.mem_of_mem_take hpm)]; exact hdd)).1
          have := c1 p hpm
          omega
      have g2 : (if (s.getD k noPt).2.getD d 0 ≤ high.getD d 0 then eachT low high (treeT dims (s.drop k)) else []) = (flatT (treeT dims (s.drop k))).filter (inB low high) := by
        split
        · exact a2
        · rename_i hn
          symm
          rw [List.filter_eq_nil_iff]
          intro p h hin
          have hpm := f2.mem_iff.1 h
          have := (inB_iff.1 hin d (by rw [hsm p (List.mem_of_mem_drop hpm)]; exact hdd)).2
          have := c2 p hpm
          omega
      rw [g1, g2]
end Go.Proofs.YtpopbkcbplmcaaaGreat
namespace Go.Proofs.YtpopbkcbplmcaaaGreat
set_option linter.unusedVariables false
set_option linter.unusedSimpArgs false
open Go.RowKit

/-- a store into a slice of the call's own (elements of one cell). -/
theorem Own.store {w : World} {base e n c : Nat} {A : Option Addr} {xs : List Value} (h : Own w base e 1 (.slice A n c) n xs) {k : Nat} (hk : k < n) :
    ∃ g, A = some ⟨g, 0, none⟩ ∧ base ≤ g ∧ g < w.heap.size ∧ w.cell? ⟨g, k, none⟩ = xs[k]? ∧ w.frozen? ⟨g, k, none⟩ = false ∧
      ∀ v : Value, Own (w.setCell ⟨g, k, none⟩ v) base e 1 (.slice A n c) n (xs.set k v) := by
  obtain ⟨hl, A', c', hv, hn, hm, hA⟩ := h
  injection hv with h1 h2 h3
  subst h1; subst h3
  rcases hA with ⟨rfl, rfl⟩ | ⟨g, cur, rfl, hb, hh, hcs, ht⟩
  · omega
  · refine ⟨g, rfl, hb, (Array.getElem?_eq_some_iff.1 hh).1, ?_, by simp [World.frozen?, hh], ?_⟩
    · rw [cell_of_row w g k cur e (0, 0) hh, ← ht, List.getElem?_take, if_pos (by omega)]
      simp
    · intro v
      refine ⟨by rw [List.length_set]; exact hl, _, c, rfl, hn, hm, .inr ⟨g, cur.set! k v, rfl, hb, ?_, by simpa using hcs, ?_⟩⟩
      · simp [World.setCell, Array.getElem?_modify, hh]
      · rw [← ht]
        simp only [Array.set!_eq_setIfInBounds, Array.toList_setIfInBounds]
        rw [List.take_set]

section
variable {P : Program} (w : World)
/-- append onto a slice of the call's own, from whatever source. -/
theorem run_append_two (base : Nat) (t tx ty e : TypeId) (i : TypeInfo) (z : Value) (size bytes : Nat) (ht : P.underlying t = some (.slice e)) (hi : P.info? e = some i) (hz : i.zero = some z)
    (hsize : i.size = size) (hby : i.bytes = bytes) (hzs : z.cells.size = size)
    (v : Value) (n : Nat) (xs : List Value) (hown : Own w base e size v n xs) (x : Value) (m : Nat) (news : List Value) (hs : Src P size tx x m news w)
    (hbytes : (n + m) * bytes ≤ 140737488355328) (h63 : n + m ≤ maxLen) (hbase : base ≤ w.heap.size) :
    ∃ v' w', (Builtin.append_ #[t, tx] ty #[v, x]).run P w = .ok v' w' ∧ Own w' base e size v' (n + m) (xs ++ news) ∧ ((v'.ownBlock = v.ownBlock ∧ Fr (fun k => v.ownBlock = some k) w w') ∨ (v'.ownBlock = some w.heap.size ∧ Fr No w w')) := by
  subst hsize
  subst hby
  have hlen : (xs ++ news).length = (n + m) * i.size := by rw [List.length_append, hown.1, hs.newsLen, Nat.add_mul]
  have h63' : n + m ≤ 9223372036854775807 := by simp only [maxLen] at h63; omega
  have hown' := hown
  obtain ⟨hl, A, c, rfl, hc, hm, hA⟩ := hown
  by_cases hroom : n + m ≤ c
  · rcases hA with ⟨rfl, rfl⟩ | ⟨g, cur, rfl, hb, hh, hcs, htk⟩
    · have hn0 : n = 0 := by omega
      have hm0 : m = 0 := by omega
      subst hn0; subst hm0
      have h1 : xs = [] := List.eq_nil_of_length_eq_zero (by simpa using hl)
      have h2 : news = [] := List.eq_nil_of_length_eq_zero (by simpa using hs.newsLen)
      subst h1; subst h2
      refine ⟨.slice none 0 0, w, ?_, Own.nil _ _ _ _, .inl ⟨rfl, Fr.refl _ _⟩⟩
      rcases hs.kind with ⟨e', hk⟩ | hk <;> simp [Builtin.append_, run_underlying ht, run_underlying hk, sizeOf, typeInfo, hi, hs.len, hs.cells]
    · have hfit : n * i.size + news.length ≤ cur.size := by
        rw [hs.newsLen, ← Nat.add_mul]
        exact Nat.le_trans (Nat.mul_le_mul_right _ hroom) hcs
      have hst := run_storeCells_at P g (n * i.size) e news 0 cur w hh (by simpa using hfit) hs.one
      simp only [Nat.add_zero] at hst
      refine ⟨.slice (some ⟨g, 0, none⟩) (n + m) c, w.setRow g (cur.toList.take (n * i.size) ++ news ++ cur.toList.drop (n * i.size + news.length)).toArray, ?_, ⟨hlen, _, c, rfl, hroom, hm, .inr ⟨g, _, rfl, hb, setRow_heap w g cur _ e _ hh, ?_, ?_⟩⟩, .inl ⟨rfl, ⟨rfl, rfl, rfl, by simp, fun k _ hk => setRow_other w g k _ (fun e => hk (by simp [Value.ownBlock, e]))⟩⟩⟩
      · rcases hs.kind with ⟨e', hk⟩ | hk <;> simp [Builtin.append_, run_underlying ht, run_underlying hk, sizeOf, typeInfo, hi, hs.len, hroom, hs.cells, Addr.add_lit, hst]
      · simp only [List.size_toArray, List.length_append, List.length_take, List.length_drop, Array.length_toList]
        omega
      · rw [htk, ← hlen]
        exact List.take_left
  · have hold : (Builtin.firstCells i.size n (.slice A n c)).run P w.drew = .ok xs.toArray w.drew := by
      rcases A with _ | ad
      · have hn0 : n = 0 := by
          rcases hA with ⟨_, h0⟩ | ⟨g, _, h, _⟩
          · omega
          · cases h
        subst hn0
        have h1 : xs = [] := List.eq_nil_of_length_eq_zero (by simpa using hl)
        subst h1
        simp [run_firstCells_none]
      · refine run_firstCells_some (P := P) w.drew i.size n ad n c xs hl (fun j u hu => ?_)
        obtain ⟨ad', e', _, hc'⟩ := hown'.rd j u hu
        injection e' with e'
        subst e'
        exact hc'
    have hr := run_append_grow_src (P := P) w t tx ty e i z ht hi hz A n c xs hold x m news hs (by omega) (by omega) (growslice_fits (by omega) hbytes)
    have hge := grownCap_ge w (n + m) c e
    have hcm : grownCap w (n + m) c e ≤ maxLen := grownCap_le_maxLen w (n + m) c e h63
    refine ⟨_, _, hr, ⟨hlen, _, _, rfl, hge, hcm, .inr ⟨w.heap.size, _, rfl, hbase, heap_alloc_new w.drew _, ?_, ?_⟩⟩, .inr ⟨rfl, ⟨rfl, rfl, rfl, by simp, fun k hk _ => Below.heap_alloc w.drew _ k hk⟩⟩⟩
    · rw [Array.size_append, List.size_toArray, size_zeroCells, hzs, hlen, ← Nat.add_mul]
      exact Nat.le_of_eq (by congr 1; omega)
    · rw [Array.toList_append, ← hlen]
      exact List.take_left

theorem wp_append_two {o : Oper} {a : Act} {K : Act → World → Prop} {Q : Exit → Act → World → Prop} (s x : Operand) (t tx : TypeId)
    (ho : o.op = .call { callee := .builtin .append, args := #[s, x], argTypes := #[t, tx] })
    (base : Nat) (e : TypeId) (i : TypeInfo) (z : Value) (size bytes : Nat) (ht : P.underlying t = some (.slice e)) (hi : P.info? e = some i) (hz : i.zero = some z)
    (hsize : i.size = size) (hby : i.bytes = bytes) (hzs : z.cells.size = size)
    (v : Value) (n : Nat) (xs : List Value) (hs : a.eval s = v) (hown : Own w base e size v n xs)
    (y : Value) (m : Nat) (news : List Value) (hx : a.eval x = y) (hsrc : Src P size tx y m news w)
    (hbytes : (n + m) * bytes ≤ 140737488355328) (h63 : n + m ≤ maxLen) (hbase : base ≤ w.heap.size)
    (h : ∀ v' w', Own w' base e size v' (n + m) (xs ++ news) → ((v'.ownBlock = v.ownBlock ∧ Fr (fun k => v.ownBlock = some k) w w') ∨ (v'.ownBlock = some w.heap.size ∧ Fr No w w')) → K (a.put o.dst v') w') : o.wp P a w K Q := by
  obtain ⟨v', w', hrun, h2, h3⟩ := run_append_two (P := P) w base t tx o.type e i z size bytes ht hi hz hsize hby hzs v n xs hown y m news hsrc hbytes h63 hbase
  unfold Oper.wp execOp
  simp only [ho, resolve, invoke, builtin, Sem.run_bind, Sem.run_pure, Result.andThen_ok, List.map_toArray, List.map_cons, List.map_nil, hs, hx, hrun]
  exact h v' w' h2 h3

theorem wpList_append_two {ops : Array Oper} {rest : List Oper} {o : Oper} {a : Act} {Q : Exit → Act → World → Prop} (hgd : o.guard = none) (s x : Operand) (t tx : TypeId)
    (ho : o.op = .call { callee := .builtin .append, args := #[s, x], argTypes := #[t, tx] })
    (base : Nat) (e : TypeId) (i : TypeInfo) (z : Value) (size bytes : Nat) (ht : P.underlying t = some (.slice e)) (hi : P.info? e = some i) (hz : i.zero = some z)
    (hsize : i.size = size) (hby : i.bytes = bytes) (hzs : z.cells.size = size)
    (v : Value) (n : Nat) (xs : List Value) (hs : a.eval s = v) (hown : Own w base e size v n xs)
    (y : Value) (m : Nat) (news : List Value) (hx : a.eval x = y) (hsrc : Src P size tx y m news w)
    (hbytes : (n + m) * bytes ≤ 140737488355328) (h63 : n + m ≤ maxLen) (hbase : base ≤ w.heap.size)
    (h : ∀ v' w', Own w' base e size v' (n + m) (xs ++ news) → ((v'.ownBlock = v.ownBlock ∧ Fr (fun k => v.ownBlock = some k) w w') ∨ (v'.ownBlock = some w.heap.size ∧ Fr No w w')) → wpList P ops Q rest (a.put o.dst v') w') : wpList P ops Q (o :: rest) a w :=
  wpList_plain hgd fun _ hK => wp_append_two w s x t tx ho base e i z size bytes ht hi hz hsize hby hzs v n xs hs hown y m news hx hsrc hbytes h63 hbase fun v' w' h2 h3 => hK _ _ (h v' w' h2 h3)

end

theorem Own.mem {w : World} {base e n c : Nat} {A : Option Addr} {xs : List Value} (h : Own w base e 1 (.slice A n c) n xs) : A = none ∧ n = 0 ∨ ∃ g, A = some ⟨g, 0, none⟩ ∧ (Value.slice A n c).ownBlock = some g := by
  obtain ⟨hl, A', c', hv, hn, hm, hA⟩ := h
  injection hv with h1 h2 h3
  subst h1; subst h3
  rcases hA with ⟨rfl, rfl⟩ | ⟨g, cur, rfl, _⟩
  · exact .inl ⟨rfl, by omega⟩
  · exact .inr ⟨g, rfl, rfl⟩
end Go.Proofs.YtpopbkcbplmcaaaGreat
namespace Go.Proofs.YtpopbkcbplmcaaaGreat
set_option linter.unusedVariables false
set_option linter.unusedSimpArgs false
open Go.RowKit

def Ret (v : Value) (w : World) (en : Ending) (w' : World) : Prop := en = .returned v ∧ w = w'

/-- quiet: a value; nothing has changed but the draws. -/
def RetQ (v : Value) (w : World) (en : Ending) (w' : World) : Prop := en = .returned v ∧ ∃ n, w' = w.drewN n

/-- a bool, and nothing that was there has changed. -/
def RetB (b : Bool) (w : World) (en : Ending) (w' : World) : Prop := en = .returned (.bool b) ∧ Fr No w w'

def RetF (v : Value) (w : World) (en : Ending) (w' : World) : Prop := en = .returned v ∧ Fr No w w'

theorem Tryz.info5 : (Tryz.prog.info? 5).map (fun i => (i.zero, i.size, i.bytes)) = some (some (.int .u8 0), 1, 1) := by kernel_rfl

/-- new bytes. -/
def GivesB (w : World) (bs : List UInt8) (en : Ending) (w' : World) : Prop := ∃ v, en = .returned v ∧ Own w' w.heap.size 5 1 v bs.length (by8 bs) ∧ Fr No w w'

theorem own_empty (w : World) (e : TypeId) : Own (w.alloc (.cells #[] e)) w.heap.size e 1 (.slice (some ⟨w.heap.size, 0, none⟩) 0 0) 0 [] :=
  ⟨by simp, _, 0, rfl, Nat.le_refl _, Nat.zero_le _, .inr ⟨w.heap.size, #[], rfl, Nat.le_refl _, heap_alloc_new w _, by simp, by simp⟩⟩

theorem Rd.len0 {w : World} {B : Nat} {bs : List UInt8} (h : Rd w B none (by8 bs)) : bs = [] := by
  cases bs with
  | nil => rfl
  | cons b r => obtain ⟨_, e, _⟩ := h 0 _ rfl; cases e

/-- a new block of bytes, read. -/
theorem Rd.new8 (w : World) (cs : Array Value) (bs : List UInt8) (e : TypeId) (h : cs.toList = by8 bs) : Rd (w.alloc (.cells cs e)) (w.alloc (.cells cs e)).heap.size (some ⟨w.heap.size, 0, none⟩) (by8 bs) := by
  intro j u hu
  refine ⟨_, rfl, by simp, ?_⟩
  rw [Addr.add_lit, Nat.zero_add, cell_of_row _ w.heap.size j cs e (0, 0) (heap_alloc_new w _)]
  rw [← h] at hu
  simpa using hu

theorem give_slice {W w' : World} {en : Ending} {t : List UInt8} {k : Nat} (hk : t.length = k) (h : GivesB W t en w') :
    ∃ A1 c1, en = .returned (.slice A1 k c1) ∧ k ≤ c1 ∧ c1 ≤ maxLen ∧ Rd w' w'.heap.size A1 (by8 t) ∧ Fr No W w' := by
  subst hk
  obtain ⟨v, rfl, ho, hf⟩ := h
  obtain ⟨A1, c1, rfl, h1, h2, _, h3, _⟩ := ho.form
  exact ⟨A1, c1, rfl, h1, h2, h3, hf⟩

theorem Fr.own1 {a b c : World} {g : Nat} (h : Fr No a b) (k : Fr (Is g) b c) (hg : a.heap.size ≤ g) : Fr No a c :=
  h.trans k (fun i hi e => by have : i = g := e; omega)

theorem box0 (w : World) (v : Value) (t : TypeId) : (w.alloc (.cells #[v] t)).cell? ⟨w.heap.size, 0, none⟩ = some v :=
  cell_of_row _ w.heap.size 0 #[v] t (0, 0) (heap_alloc_new w _)

theorem box1 (w : World) (v1 v2 : Value) (t1 t2 : TypeId) : ((w.alloc (.cells #[v1] t1)).alloc (.cells #[v2] t2)).cell? ⟨w.heap.size, 0, none⟩ = some v1 :=
  cell_of_row _ w.heap.size 0 #[v1] t1 (0, 0) ((Below.heap_alloc (w.alloc (.cells #[v1] t1)) _ w.heap.size (by simp)).trans (heap_alloc_new w _))

theorem box2 (w : World) (v1 v2 : Value) (t1 t2 : TypeId) : ((w.alloc (.cells #[v1] t1)).alloc (.cells #[v2] t2)).cell? ⟨w.heap.size + 1, 0, none⟩ = some v2 := by
  have h := heap_alloc_new (w.alloc (.cells #[v1] t1)) (.cells #[v2] t2)
  have e : (w.alloc (.cells #[v1] t1)).heap.size = w.heap.size + 1 := by simp
  rw [e] at h
  exact cell_of_row _ (w.heap.size + 1) 0 #[v2] t2 (0, 0) h

theorem take_succ_eq {xs ys : List UInt8} {k : Nat} (h1 : k < xs.length) (h2 : k < ys.length) (h : xs.take k = ys.take k) (he : xs.getD k 0 = ys.getD k 0) : xs.take (k + 1) = ys.take (k + 1) := by
  rw [List.take_succ_eq_append_getElem h1, List.take_succ_eq_append_getElem h2, h]
  simp [List.getElem?_eq_getElem h1, List.getElem?_eq_getElem h2] at he
  rw [he]

theorem take_snoc8 {l : List UInt8} {k : Nat} (h : k < l.length) : l.take (k + 1) = l.take k ++ [l.getD k 0] := by
  rw [List.take_succ_eq_append_getElem h]
  simp [List.getElem?_eq_getElem h]

theorem byteCells_by8 (s : ByteArray) : (byteCells s : List Value) = by8 s.data.toList := by simp [byteCells, by8]

end Go.Proofs.YtpopbkcbplmcaaaGreat
namespace Go.Proofs.YtpopbkcbplmcaaaGreat
set_option linter.unusedVariables false
set_option linter.unusedSimpArgs false
open Go.RowKit

set_option maxRecDepth 100000 in
set_option maxHeartbeats 400000 in
theorem clone_any (A : Option Addr) (n c B : Nat) (bs : List UInt8) (w : World) (hl : bs.length = n) (hn : n ≤ c) (hc : c ≤ maxLen) (hb : n ≤ 140737488355328) (hB : B ≤ w.heap.size) (hr : Rd w B A (by8 bs)) :
    Calls Tryz.prog 35 #[.slice A n c] w (GivesB w bs) := by
  have HR := hide hr; clear hr
  have HL := hide hl; clear hl
  obtain ⟨i0, hi, hz, hsz, hby⟩ := info_parts Tryz.info5
  cases A with
  | none =>
    have he := fun W => Lib.run_eql_slice_nil (P := Tryz.prog) W 22 5 none n c 0 0 Tryz.underlying22
    go_enter Tryz.func35, Tryz.ntmps35
    go_wp2
    go_ret
    have h0 := HR.out.len0
    subst h0
    exact ⟨_, rfl, Own.nil _ _ _ _, Fr.refl _ _⟩
  | some ad =>
    have he := fun W => Lib.run_eql_slice_nil (P := Tryz.prog) W 22 5 (some ad) n c 0 0 Tryz.underlying22
    have HS := hide (Src.ofRd (P := Tryz.prog) (size := 1) (w.alloc (.cells #[] 5)) Tryz.underlying22 (some ad) n c (by8 bs) (by rw [by8_length, HL.out]; omega) (by omega) (HR.out.fr0 ((Fr.refl _ _).alloc _)) (by8_one _))
    go_enter Tryz.func35, Tryz.ntmps35
    have b1 : (0 + n) * 1 ≤ 140737488355328 := by omega
    have b2 : 0 + n ≤ maxLen := by unfold maxLen at *; omega
    have b3 : w.heap.size ≤ (w.alloc (.cells #[] 5)).heap.size := by simp
    go_wp2_with (at_builtin; (refine wpList_append_gen _ rfl (.tmp 5) (.tmp 6) 22 22 rfl w.heap.size 5 i0 (.int .u8 0) 1 1 Tryz.underlying22 hi hz hsz hby rfl _ 0 [] rfl (own_empty w 5) _ n (by8 bs) rfl HS.out b1 b2 b3 ?_); intro v' w' hown hfr hat)
    go_ret
    refine ⟨v', rfl, by simpa [HL.out] using hown, ?_⟩
    exact ((Fr.refl No w).alloc _).own hfr (fun g h => .inl (Nat.le_of_eq (Option.some.inj h)))

set_option maxRecDepth 100000 in
set_option maxHeartbeats 400000 in
theorem clip_any (A : Option Addr) (n c : Nat) (w : World) (hn : n ≤ c) (hc : c ≤ maxLen) :
    Calls Tryz.prog 64 #[.slice A n c] w (Ret (.slice A n n) w) := by
  unfold maxLen at hc
  go_enter Tryz.func64, Tryz.ntmps64
  go_wp2
  go_ret
  exact ⟨by simp, rfl⟩

end Go.Proofs.YtpopbkcbplmcaaaGreat
namespace Go.Proofs.YtpopbkcbplmcaaaGreat
set_option linter.unusedVariables false
set_option linter.unusedSimpArgs false
open Go.RowKit

/-- a reader: bytes, the place in them, the error. -/
def RD (w : World) (g : Nat) (bs : List UInt8) (at_ : Nat) (e : Int) : Prop :=
  ∃ A c, w.heap[g]? = some (.cells #[.slice A bs.length c, .int .i64 at_, .int .i64 e] 76 (0, 0)) ∧ bs.length ≤ c ∧ c ≤ maxLen ∧ at_ ≤ bs.length ∧ bs.length ≤ 140737488355328 ∧
    Own w 0 5 1 (.slice A bs.length c) bs.length (by8 bs)

theorem RD.parts {w : World} {g : Nat} {bs : List UInt8} {at_ : Nat} {e : Int} (h : RD w g bs at_ e) :
    ∃ A c, (w.cell? ⟨g, 0, none⟩ = some (.slice A bs.length c) ∧ w.cell? ⟨g, 1, none⟩ = some (.int .i64 at_) ∧ w.cell? ⟨g, 2, none⟩ = some (.int .i64 e)) ∧ (∀ i, w.frozen? ⟨g, i, none⟩ = false) ∧
      bs.length ≤ c ∧ c ≤ maxLen ∧ at_ ≤ bs.length ∧ bs.length ≤ 140737488355328 ∧ Rd w w.heap.size A (by8 bs) := by
  obtain ⟨A, c, hh, h1, h2, h3, h4, ho⟩ := h
  exact ⟨A, c, ⟨cell_of_row w g 0 _ _ (0, 0) hh, cell_of_row w g 1 _ _ (0, 0) hh, cell_of_row w g 2 _ _ (0, 0) hh⟩, fun i => by simp [World.frozen?, hh], h1, h2, h3, h4, ho.rd⟩

theorem RD.set1 {w : World} {g : Nat} {bs : List UInt8} {at_ : Nat} {e : Int} (h : RD w g bs at_ e) (k : Nat) (hk : k ≤ bs.length) : RD (w.setCell ⟨g, 1, none⟩ (.int .i64 k)) g bs k e := by
  obtain ⟨A, c, hh, h1, h2, h3, h4, ho⟩ := h
  refine ⟨A, c, by simp [World.setCell, Array.getElem?_modify, hh], h1, h2, hk, h4, ho.fr ((Fr.refl (Is g) w).setCell (p := ⟨g, 1, none⟩) (fun _ => rfl) _) ?_⟩
  rintro g' hg' rfl
  exact ho.ne_blk hg' hh (by decide)

theorem RD.set2 {w : World} {g : Nat} {bs : List UInt8} {at_ : Nat} {e : Int} (h : RD w g bs at_ e) (k : Int) : RD (w.setCell ⟨g, 2, none⟩ (.int .i64 k)) g bs at_ k := by
  obtain ⟨A, c, hh, h1, h2, h3, h4, ho⟩ := h
  refine ⟨A, c, by simp [World.setCell, Array.getElem?_modify, hh], h1, h2, h3, h4, ho.fr ((Fr.refl (Is g) w).setCell (p := ⟨g, 2, none⟩) (fun _ => rfl) _) ?_⟩
  rintro g' hg' rfl
  exact ho.ne_blk hg' hh (by decide)

theorem RD.drewN {w : World} {g : Nat} {bs : List UInt8} {at_ : Nat} {e : Int} (h : RD w g bs at_ e) (n : Nat) : RD (w.drewN n) g bs at_ e := h

theorem RD.fr0 {w w' : World} {g : Nat} {bs : List UInt8} {a : Nat} {e : Int} (h : RD w g bs a e) (f : Fr No w w') : RD w' g bs a e := by
  obtain ⟨A, c, hh, h1, h2, h3, h4, ho⟩ := h
  exact ⟨A, c, f.blk hh (fun h => h), h1, h2, h3, h4, ho.fr0 f⟩

theorem RD.lt {w : World} {g : Nat} {bs : List UInt8} {a : Nat} {e : Int} (h : RD w g bs a e) : g < w.heap.size := by
  obtain ⟨A, c, hh, _⟩ := h
  exact (Array.getElem?_eq_some_iff.1 hh).1

theorem RD.other {w w' : World} {g g2 : Nat} {bs bs2 : List UInt8} {a a2 : Nat} {e e2 : Int} (h : RD w g bs a e) (h2 : RD w g2 bs2 a2 e2) (f : Fr (Is g2) w w') (hne : g ≠ g2) : RD w' g bs a e := by
  obtain ⟨A, c, hh, h1, h2', h3, h4, ho⟩ := h
  obtain ⟨A2, c2, hh2, _⟩ := h2
  refine ⟨A, c, f.blk hh hne, h1, h2', h3, h4, ho.fr f ?_⟩
  rintro g' hg' rfl
  exact ho.ne_blk hg' hh2 (by decide)

theorem dec_le : ∀ (bs : List UInt8) (i acc u k : Nat), dec i acc bs = some (u, k) → i < k ∧ k ≤ i + bs.length
  | [], i, acc, u, k, h => by simp [dec] at h
  | b :: r, i, acc, u, k, h => by
    rw [dec] at h
    split at h
    · cases h
    · split at h
      · cases h
      · split at h
        · split at h
          · cases h
          · injection h with h; injection h with _ h; simp; omega
        · have := dec_le r _ _ u k h
          simp; omega

/-- what a reader's call leaves: value, place, error. -/
def RDRet (v : Value) (w : World) (g : Nat) (bs : List UInt8) (at_ : Nat) (e : Int) (en : Ending) (w' : World) : Prop := en = .returned v ∧ RD w' g bs at_ e ∧ Fr (Is g) w w'

/-- a new reader. -/
def GivesRD (w : World) (bs : List UInt8) (en : Ending) (w' : World) : Prop := ∃ g, en = .returned (.pointer (some ⟨g, 0, none⟩)) ∧ w.heap.size ≤ g ∧ RD w' g bs 0 0 ∧ Fr No w w'

set_option maxRecDepth 100000 in
set_option maxHeartbeats 400000 in
theorem newReader_any (A : Option Addr) (n c B : Nat) (bs : List UInt8) (w : World) (hl : bs.length = n) (hn : n ≤ c) (hc : c ≤ maxLen) (hb : n ≤ 140737488355328) (hB : B ≤ w.heap.size) (hr : Rd w B A (by8 bs)) :
    Calls Tryz.prog 20 #[.slice A n c] w (GivesRD w bs) := by
  have H := hide (clone_any A n c B bs w hl hn hc hb hB hr)
  have HL := hide hl
  clear hr hl
  go_enter Tryz.func20, Tryz.ntmps20
  go_wp2_with (go_at_call 35; refine H.out.mono ?_; rintro en w' ⟨v, rfl, hown, hfr⟩; obtain ⟨A', c', rfl, hq1, hq2, hq3, hq4⟩ := hown.form; have HO := hide hown; have HF := hide hfr; clear hown hfr hq3 hq4)
  go_ret
  refine ⟨w'.heap.size, rfl, HF.out.size, ⟨A', c', heap_alloc_new w' _, hq1, hq2, Nat.zero_le _, by rw [HL.out]; exact hb, ?_⟩, HF.out.alloc _⟩
  exact (HO.out.lower (Nat.zero_le _)).fr0 ((Fr.refl _ _).alloc _)

set_option maxRecDepth 100000 in
set_option maxHeartbeats 400000 in
theorem left_any (g : Nat) (bs : List UInt8) (a : Nat) (e : Int) (w : World) (h : RD w g bs a e) :
    Calls Tryz.prog 41 #[.pointer (some ⟨g, 0, none⟩)] w (RetQ (.int .i64 ((bs.length - a : Nat) : Int)) w) := by
  obtain ⟨A, c, ⟨c0, c1, c2⟩, hf, h1, h2, h3, h4, hr⟩ := h.parts
  have hx : ((bs.length - a : Nat) : Int) = (bs.length : Int) - a := by omega
  have HX := hide hx
  clear h hr hx
  generalize bs.length = n at *
  go_enter Tryz.func41, Tryz.ntmps41
  go_wp2
  go_quiet (fail)
  go_wp2
  go_ret
  exact ⟨by rw [HX.out]; rfl, _, rfl⟩

set_option maxRecDepth 100000 in
set_option maxHeartbeats 400000 in
theorem left_nil (w : World) : Calls Tryz.prog 41 #[.pointer none] w (Ret (.int .i64 0) w) := by
  go_enter Tryz.func41, Tryz.ntmps41
  go_wp2
  go_ret
  exact ⟨rfl, rfl⟩

set_option maxRecDepth 100000 in
set_option maxHeartbeats 400000 in
theorem err_any (g : Nat) (bs : List UInt8) (a : Nat) (e : Int) (w : World) (h : RD w g bs a e) :
    Calls Tryz.prog 23 #[.pointer (some ⟨g, 0, none⟩)] w (Ret (.int .i64 e) w) := by
  obtain ⟨A, c, ⟨c0, c1, c2⟩, hf, h1, h2, h3, h4, hr⟩ := h.parts
  clear h hr
  go_enter Tryz.func23, Tryz.ntmps23
  go_wp2
  go_ret
  exact ⟨rfl, rfl⟩

set_option maxRecDepth 100000 in
set_option maxHeartbeats 400000 in
theorem err_nil (w : World) : Calls Tryz.prog 23 #[.pointer none] w (Ret (.int .i64 20) w) := by
  go_enter Tryz.func23, Tryz.ntmps23
  go_wp2
  go_ret
  exact ⟨rfl, rfl⟩

def endE (bs : List UInt8) (a : Nat) (e : Int) : Int := if e = 0 ∧ a < bs.length then 20 else e

/-- where a reader's bytes lie: from M on. -/
def Up0 (w : World) (g M : Nat) : Prop := ∀ A n c, w.cell? ⟨g, 0, none⟩ = some (.slice A n c) → ∀ k, (Value.slice A n c).ownBlock = some k → M ≤ k

def GivesRU (w : World) (bs : List UInt8) (en : Ending) (w' : World) : Prop := ∃ g, en = .returned (.pointer (some ⟨g, 0, none⟩)) ∧ w.heap.size ≤ g ∧ RD w' g bs 0 0 ∧ Fr No w w' ∧ Up0 w' g w.heap.size

theorem RD.below {S : Nat → Prop} {w w' : World} {g M : Nat} {bs : List UInt8} {a : Nat} {e : Int} (h : RD w g bs a e) (h0 : Up0 w g M) (hg : M ≤ g) (f : Fr S w w') (hS : ∀ k, M ≤ k → ¬ S k) : RD w' g bs a e := by
  obtain ⟨A, c, hh, h1, h2', h3, h4, ho⟩ := h
  refine ⟨A, c, f.blk hh (hS g hg), h1, h2', h3, h4, ho.fr f ?_⟩
  intro k hk
  exact hS k (h0 A bs.length c (by rw [cell_of_row w g 0 _ _ (0, 0) hh]; rfl) k hk)

theorem Up0.fr0 {w w' : World} {g M : Nat} {bs : List UInt8} {a : Nat} {e : Int} (h : Up0 w g M) (r : RD w g bs a e) (f : Fr No w w') : Up0 w' g M := by
  intro A n c hc k hk
  obtain ⟨_, _, ⟨z, _⟩, _⟩ := r.parts
  have := f.cell (p := ⟨g, 0, none⟩) z (fun h => h)
  rw [this] at hc
  exact h A n c (by rw [z, hc]) k hk

set_option maxRecDepth 100000 in
set_option maxHeartbeats 400000 in
theorem newReader_up (A : Option Addr) (n c B : Nat) (bs : List UInt8) (w : World) (hl : bs.length = n) (hn : n ≤ c) (hc : c ≤ maxLen) (hb : n ≤ 140737488355328) (hB : B ≤ w.heap.size) (hr : Rd w B A (by8 bs)) :
    Calls Tryz.prog 20 #[.slice A n c] w (GivesRU w bs) := by
  have H := hide (clone_any A n c B bs w hl hn hc hb hB hr)
  have HL := hide hl
  clear hr hl
  go_enter Tryz.func20, Tryz.ntmps20
  go_wp2_with (go_at_call 35; refine H.out.mono ?_; rintro en w' ⟨v, rfl, hown, hfr⟩; obtain ⟨A', c', rfl, hq1, hq2, hq3, hq4⟩ := hown.form; have HO := hide hown; have HF := hide hfr; clear hown hfr hq3 hq4)
  go_ret
  refine ⟨w'.heap.size, rfl, HF.out.size, ⟨A', c', heap_alloc_new w' _, hq1, hq2, Nat.zero_le _, by rw [HL.out]; exact hb, ?_⟩, HF.out.alloc _, ?_⟩
  · exact (HO.out.lower (Nat.zero_le _)).fr0 ((Fr.refl _ _).alloc _)
  · intro A2 n2 c2 hc2 k hk
    rw [cell_of_row _ w'.heap.size 0 _ _ (0, 0) (heap_alloc_new w' _)] at hc2
    have : Value.slice A' bs.length c' = .slice A2 n2 c2 := by simpa using hc2
    rw [← this] at hk
    exact (HO.out.lt k hk).1

end Go.Proofs.YtpopbkcbplmcaaaGreat
namespace Go.Proofs.YtpopbkcbplmcaaaGreat
set_option linter.unusedVariables false
set_option linter.unusedSimpArgs false
open Go.RowKit

/-! Size -/
def sizeR (bs : List UInt8) (most : Int) : Option (Nat × Nat) :=
  match dec 0 0 bs with
  | none => none
  | some (u, k) => if most < 0 ∨ most < (u : Int) then none else some (u, k)

def sizeV : Option (Nat × Nat) → Value
  | none => .tuple #[.int .i64 0, .int .i64 (-1)]
  | some (u, k) => .tuple #[.int .i64 u, .int .i64 k]

theorem sizeR_none {bs : List UInt8} {most : Int} (hd : dec 0 0 bs = none) : sizeR bs most = none := by unfold sizeR; rw [hd]

theorem sizeR_no {bs : List UInt8} {most : Int} {u k : Nat} (hd : dec 0 0 bs = some (u, k)) (h : most < 0 ∨ most < (u : Int)) : sizeR bs most = none := by
  unfold sizeR; rw [hd]; exact if_pos h

theorem sizeR_ok {bs : List UInt8} {most : Int} {u k : Nat} (hd : dec 0 0 bs = some (u, k)) (h : ¬ (most < 0 ∨ most < (u : Int))) : sizeR bs most = some (u, k) := by
  unfold sizeR; rw [hd]; exact if_neg h

def sizeS (bs : List UInt8) (a : Nat) (e most : Int) : Nat × Nat × Int :=
  if e = 0 then (match sizeR (bs.drop a) most with | none => (0, a, 20) | some (u, k) => (u, a + k, 0)) else (0, a, e)

theorem sizeR_le {bs : List UInt8} {most : Int} {u k : Nat} (h : sizeR bs most = some (u, k)) : k ≤ bs.length := by
  cases hd : dec 0 0 bs with
  | none => rw [sizeR_none hd] at h; cases h
  | some x =>
    obtain ⟨u', j⟩ := x
    have hk := dec_le _ _ _ _ _ hd
    by_cases hb : most < 0 ∨ most < (u' : Int)
    · rw [sizeR_no hd hb] at h; cases h
    · rw [sizeR_ok hd hb] at h
      injection h with h
      injection h with _ h
      omega

end Go.Proofs.YtpopbkcbplmcaaaGreat
namespace Go.Proofs.YtpopbkcbplmcaaaGreat
set_option linter.unusedVariables false
set_option linter.unusedSimpArgs false
open Go.RowKit

def bytesR (bs : List UInt8) (x : Int) : Option (List UInt8) := if x < 0 ∨ (bs.length : Int) < x then none else some (bs.take x.toNat)

def bytesS (bs : List UInt8) (a : Nat) (e x : Int) : List UInt8 × Nat × Int :=
  if e = 0 then (match bytesR (bs.drop a) x with | none => ([], a, 20) | some s => (s, a + x.toNat, 0)) else ([], a, e)

end Go.Proofs.YtpopbkcbplmcaaaGreat
namespace Go.Proofs.YtpopbkcbplmcaaaGreat
set_option linter.unusedVariables false
set_option linter.unusedSimpArgs false
open Go.RowKit

theorem or_step {v g k : Nat} (hv : v < 2 ^ (7 * k)) (hk : k ≤ 9) (hg : g < 128) (h9 : k = 9 → g ≤ 1) :
    bits .or .u64 (v : Int) (IntKind.u64.wrap ((g : Int) * 2 ^ (7 * k))) = ((v + g * 2 ^ (7 * k) : Nat) : Int) := by
  have hlt : v + g * 2 ^ (7 * k) < 18446744073709551616 := by
    by_cases h : k = 9
    · subst h
      have := h9 rfl
      have e : (2 : Nat) ^ (7 * 9) = 9223372036854775808 := by decide
      rw [e] at hv ⊢
      omega
    · have := acc_lt hv hg
      have h2 : 2 ^ (7 * (k + 1)) ≤ 2 ^ 63 := Nat.pow_le_pow_right (by omega) (by omega)
      omega
  have e1 : (g : Int) * 2 ^ (7 * k) = ((g * 2 ^ (7 * k) : Nat) : Int) := by simp
  rw [e1, IntWalk.u64_in _ (by omega), u64_or_nat _ _ (by omega) (by omega), or_shift hv]

set_option maxRecDepth 100000 in
set_option maxHeartbeats 800000 in
theorem number_any (r : Value) (A : Option Addr) (n c B : Nat) (bs : List UInt8) (w : World) (hl : bs.length = n) (hn : n ≤ c) (hc : c ≤ maxLen) (hr : Rd w B A (by8 bs)) :
    Calls Tryz.prog 38 #[r, .slice A n c] w (Ret (numV (dec 0 0 bs)) w) := by
  unfold maxLen at hc
  have HR := hide hr; clear hr
  have HL := hide hl; clear hl
  by_cases h10 : n ≤ 10
  all_goals
    go_enter Tryz.func38, Tryz.ntmps38
    go_wp2
    go_loop [6, 16] (fun a i => ∃ k v : Nat, k ≤ n ∧ k ≤ 10 ∧ Hid (v < 2 ^ (7 * k)) ∧ i = .int .i64 k ∧ a = .int .u64 v ∧ Hid (dec 0 0 bs = dec k v (bs.drop k))) (fun _ i => n - (intOf i).toNat)
    case atStart => exact ⟨0, 0, by omega, by omega, hide (by decide), rfl, rfl, hide rfl⟩
    case round =>
      obtain ⟨k, v, hk, hk10, HV, rfl, rfl, HD⟩ := hrel
      by_cases hlt : k < n ∧ k < 10
      · obtain ⟨hlt, hlt10⟩ := hlt
        have hkl : k < bs.length := by rw [HL.out]; exact hlt
        obtain ⟨ad, rfl, _, hcell⟩ := HR.out.byte hkl
        have s1 := hide (@dec_bad9 bs k v hkl)
        have s2 := hide (@dec_stop bs k v hkl hlt10)
        have s3 := hide (@dec_bad0 bs k v hkl)
        have s4 := hide (@dec_more bs k v hkl hlt10)
        generalize bs.getD k 0 = b at hcell s1 s2 s3 s4
        have hg := and_127 b
        have hb := b.toNat_lt
        generalize b.toNat = x at hcell s1 s2 s3 s4 hg hb
        obtain ⟨g, hgd⟩ : ∃ g : Nat, g = x % 128 := ⟨_, rfl⟩
        rw [← hgd] at hg s1 s2 s4
        have hg1 : g < 128 := by omega
        have hb' : x < 256 := by omega
        clear hb
        have HG := hide hgd; clear hgd
        clear hkl
        have cases9 : (Hid (k = 9 ∧ 1 < g) ∧ ((k : Int) == 9) = true ∧ 1 < g) ∨ (Hid (¬ (k = 9 ∧ 1 < g)) ∧ ((k : Int) == 9) = true ∧ g ≤ 1) ∨ (Hid (¬ (k = 9 ∧ 1 < g)) ∧ ((k : Int) == 9) = false) := by
          by_cases h9 : k = 9
          · by_cases hg : 1 < g
            · exact .inl ⟨hide ⟨h9, hg⟩, by simp; omega, hg⟩
            · exact .inr (.inl ⟨hide (fun h => hg h.2), by simp; omega, by omega⟩)
          · exact .inr (.inr ⟨hide (fun h => h9 h.1), by simp; omega⟩)
        rcases cases9 with ⟨t9, t9b, tg⟩ | cases9
        · have HF := hide (HD.out.trans (s1.out t9.out))
          clear s1 s2 s3 s4
          go_wp2
          go_ret2
          exact ⟨by rw [HF.out]; rfl, rfl⟩
        · have ho := or_step HV.out (by omega) hg1 (by intro h9; rcases cases9 with ⟨_, _, h⟩ | ⟨_, h⟩ <;> first | exact h | (simp [h9] at h))
          have HV' := hide (acc_lt HV.out hg1)
          have t9 : ¬ (k = 9 ∧ 1 < g) := by rcases cases9 with ⟨h, _⟩ | ⟨h, _⟩ <;> exact h.out
          have z2 := hide (s2.out t9)
          have z4 := hide (s4.out t9)
          clear s2 s4 t9
          generalize v + g * 2 ^ (7 * k) = v' at ho HV' z2 z4
          clear HV s1
          rcases cases9 with ⟨t9, t9b, tg⟩ | ⟨t9, t9b⟩
          all_goals
            go_wp2
            · go_ret2
              exact ⟨by rw [HD.out, s3.out (by omega) (by omega)]; rfl, rfl⟩
            · go_ret2
              exact ⟨by rw [HD.out, z2.out (by omega) (by omega)]; simp [numV], rfl⟩
            · go_ret2
              exact ⟨by rw [HD.out, z2.out (by omega) (by omega)]; simp [numV], rfl⟩
            · go_round
              case rel => exact ⟨k + 1, v', by omega, by omega, HV', by go_num, rfl, hide (HD.out.trans (z4.out (by omega)))⟩
              case measure => simp [intOf]; omega
      · have HF := hide (HD.out.trans (dec_end (bs := bs) (k := k) (v := v) (by rw [HL.out]; omega)))
        go_wp2
        go_ret2
        exact ⟨by rw [HF.out]; rfl, rfl⟩

end Go.Proofs.YtpopbkcbplmcaaaGreat
namespace Go.Proofs.YtpopbkcbplmcaaaGreat
set_option linter.unusedVariables false
set_option linter.unusedSimpArgs false
open Go.RowKit

theorem num_cut {w : World} {B : Nat} {A : Option Addr} {bs : List UInt8} {c at_ : Nat} (r : Value) (hr : Rd w B A (by8 bs)) (h1 : bs.length ≤ c) (h2 : c ≤ maxLen) (h3 : at_ ≤ bs.length) (nq : Nat) :
    Calls Tryz.prog 38 #[r, .slice (if c = at_ then A else A.map (·.add at_)) (bs.length - at_) (c - at_)] (w.drewN nq) fun e w' => e = .returned (numV (dec 0 0 (bs.drop at_))) ∧ w' = w.drewN nq :=
  (number_any r _ _ _ B (bs.drop at_) (w.drewN nq) (by simp) (by omega) (by omega) (by rw [by8_drop]; exact Rd.cut (w := w) hr (by rw [by8_length]; exact h1))).mono fun _ _ ⟨a, b⟩ => ⟨a, b.symm⟩

theorem num_none {w : World} {B : Nat} {A : Option Addr} {bs : List UInt8} {c at_ : Nat} (r : Value) (hr : Rd w B A (by8 bs)) (h1 : bs.length ≤ c) (h2 : c ≤ maxLen) (h3 : at_ ≤ bs.length) (hd : dec 0 0 (bs.drop at_) = none) (nq : Nat) :
    Calls Tryz.prog 38 #[r, .slice (if c = at_ then A else A.map (·.add at_)) (bs.length - at_) (c - at_)] (w.drewN nq) fun e w' => e = .returned (.tuple #[.int .u64 0, .int .i64 (-1)]) ∧ w' = w.drewN nq := by
  have h := num_cut r hr h1 h2 h3 nq
  rw [hd] at h
  exact h

theorem num_some {w : World} {B : Nat} {A : Option Addr} {bs : List UInt8} {c at_ u k : Nat} (r : Value) (hr : Rd w B A (by8 bs)) (h1 : bs.length ≤ c) (h2 : c ≤ maxLen) (h3 : at_ ≤ bs.length) (hd : dec 0 0 (bs.drop at_) = some (u, k)) (nq : Nat) :
    Calls Tryz.prog 38 #[r, .slice (if c = at_ then A else A.map (·.add at_)) (bs.length - at_) (c - at_)] (w.drewN nq) fun e w' => e = .returned (.tuple #[.int .u64 u, .int .i64 k]) ∧ w' = w.drewN nq := by
  have h := num_cut r hr h1 h2 h3 nq
  rw [hd] at h
  exact h

end Go.Proofs.YtpopbkcbplmcaaaGreat
namespace Go.Proofs.YtpopbkcbplmcaaaGreat
set_option linter.unusedVariables false
set_option linter.unusedSimpArgs false
open Go.RowKit

def uintR (bs : List UInt8) (a : Nat) (e : Int) : Nat × Nat × Int :=
  if e = 0 then (match dec 0 0 (bs.drop a) with | none => (0, a, 20) | some (u, k) => (u, a + k, 0)) else (0, a, e)

theorem uintR_lt (bs : List UInt8) (a : Nat) (e : Int) : (uintR bs a e).1 < 18446744073709551616 := by
  unfold uintR
  split
  · cases hd : dec 0 0 (bs.drop a) with
    | none => simp
    | some x => exact dec_lt _ 0 0 x.1 x.2 (by decide) hd
  · simp

theorem uintR_none {bs : List UInt8} {a : Nat} (hd : dec 0 0 (bs.drop a) = none) : uintR bs a 0 = (0, a, 20) := by unfold uintR; rw [if_pos rfl, hd]

theorem uintR_some {bs : List UInt8} {a u k : Nat} (hd : dec 0 0 (bs.drop a) = some (u, k)) : uintR bs a 0 = (u, a + k, 0) := by unfold uintR; rw [if_pos rfl, hd]

set_option maxRecDepth 100000 in
set_option maxHeartbeats 400000 in
theorem takeU_bad (g : Nat) (bs : List UInt8) (at_ : Nat) (w : World) (h : RD w g bs at_ 0) (hd : dec 0 0 (bs.drop at_) = none) :
    Calls Tryz.prog 65 #[.pointer (some ⟨g, 0, none⟩), .func (.func 38) #[.pointer (some ⟨g, 0, none⟩)] #[]] w (RDRet (.int .u64 0) w g bs at_ 20) := by
  obtain ⟨A, c, ⟨c0, c1, c2⟩, hf, h1, h2, h3, h4, hr⟩ := h.parts
  have HN := hide (num_none (.pointer (some ⟨g, 0, none⟩)) hr h1 h2 h3 hd)
  have H := hide h
  clear h hr hd
  go_enter Tryz.func65, Tryz.ntmps65
  go_wp2_with (fail)
  go_quiet ((go_at_call 38; exact Calls.quiet_of_same (HN.out _)))
  go_wp2
  all_goals
    go_ret
    exact ⟨rfl, (H.out.drewN _).set2 20, ((Fr.refl _ _).drewN _).put _ _⟩

set_option maxRecDepth 100000 in
set_option maxHeartbeats 400000 in
theorem takeU_ok (g : Nat) (bs : List UInt8) (at_ u k : Nat) (w : World) (h : RD w g bs at_ 0) (hd : dec 0 0 (bs.drop at_) = some (u, k)) :
    Calls Tryz.prog 65 #[.pointer (some ⟨g, 0, none⟩), .func (.func 38) #[.pointer (some ⟨g, 0, none⟩)] #[]] w (RDRet (.int .u64 u) w g bs (at_ + k) 0) := by
  obtain ⟨A, c, ⟨c0, c1, c2⟩, hf, h1, h2, h3, h4, hr⟩ := h.parts
  have HN := hide (num_some (.pointer (some ⟨g, 0, none⟩)) hr h1 h2 h3 hd)
  have hk := dec_le _ _ _ _ _ hd
  have hk1 : at_ + k ≤ bs.length := by have := hk.2; simp at this; omega
  have H := hide h
  clear h hr hd hk
  go_enter Tryz.func65, Tryz.ntmps65
  go_wp2_with (fail)
  go_quiet ((go_at_call 38; exact Calls.quiet_of_same (HN.out _)))
  go_wp2
  all_goals
    go_ret
    exact ⟨rfl, (H.out.drewN _).set1 _ hk1, ((Fr.refl _ _).drewN _).put _ _⟩

set_option maxRecDepth 100000 in
set_option maxHeartbeats 400000 in
theorem takeU_off (g : Nat) (bs : List UInt8) (at_ : Nat) (e : Int) (w : World) (f : Value) (h : RD w g bs at_ e) (he : e ≠ 0) :
    Calls Tryz.prog 65 #[.pointer (some ⟨g, 0, none⟩), f] w (RDRet (.int .u64 0) w g bs at_ e) := by
  obtain ⟨A, c, ⟨c0, c1, c2⟩, hf, h1, h2, h3, h4, hr⟩ := h.parts
  have hb : (e != 0) = true := by simpa using he
  have H := hide h
  clear h hr he
  go_enter Tryz.func65, Tryz.ntmps65
  go_wp2_with (fail)
  go_ret
  exact ⟨rfl, H.out, Fr.refl _ _⟩

set_option maxRecDepth 100000 in
set_option maxHeartbeats 400000 in
theorem takeU_nil (w : World) (f : Value) :
    Calls Tryz.prog 65 #[.pointer none, f] w (Ret (.int .u64 0) w) := by
  go_enter Tryz.func65, Tryz.ntmps65
  go_wp2_with (fail)
  go_ret
  exact ⟨rfl, rfl⟩

theorem takeU_all (g : Nat) (bs : List UInt8) (a : Nat) (e : Int) (w : World) (h : RD w g bs a e) :
    Calls Tryz.prog 65 #[.pointer (some ⟨g, 0, none⟩), .func (.func 38) #[.pointer (some ⟨g, 0, none⟩)] #[]] w (RDRet (.int .u64 (uintR bs a e).1) w g bs (uintR bs a e).2.1 (uintR bs a e).2.2) := by
  unfold uintR
  by_cases he : e = 0
  · subst he
    rw [if_pos rfl]
    cases hd : dec 0 0 (bs.drop a) with
    | none => exact takeU_bad g bs a w h hd
    | some x => exact takeU_ok g bs a x.1 x.2 w h hd
  · rw [if_neg he]
    exact takeU_off g bs a e w _ h he

set_option maxRecDepth 100000 in
set_option maxHeartbeats 400000 in
theorem int_any (g : Nat) (bs : List UInt8) (a : Nat) (e : Int) (w : World) (h : RD w g bs a e) :
    Calls Tryz.prog 40 #[.pointer (some ⟨g, 0, none⟩)] w (RDRet (.int .i64 (unzz (uintR bs a e).1)) w g bs (uintR bs a e).2.1 (uintR bs a e).2.2) := by
  have H := hide (takeU_all g bs a e w h)
  have HX := hide (xor_zz (uintR_lt bs a e))
  clear h
  generalize uintR bs a e = x at H HX
  go_enter Tryz.func40, Tryz.ntmps40
  go_wp2_with (go_at_call 65; refine H.out.mono ?_; rintro en w' ⟨rfl, hq⟩; have HQ := hide hq; clear hq)
  go_ret
  refine ⟨?_, HQ.out⟩
  rw [← HX.out]
  rfl

set_option maxRecDepth 100000 in
set_option maxHeartbeats 400000 in
theorem int_nil (w : World) :
    Calls Tryz.prog 40 #[.pointer none] w (Ret (.int .i64 0) w) := by
  have hx := xor_zz (u := 0) (by omega)
  have h00 : wrap64 0 = 0 := by unfold wrap64; omega
  simp [unzz, h00] at hx
  go_enter Tryz.func40, Tryz.ntmps40
  go_wp2_with (go_at_call 65; refine (takeU_nil _ _).mono ?_; rintro en w' ⟨rfl, rfl⟩)
  go_ret
  exact ⟨by simp [hx], rfl⟩

end Go.Proofs.YtpopbkcbplmcaaaGreat
namespace Go.Proofs.YtpopbkcbplmcaaaGreat
set_option linter.unusedVariables false
set_option linter.unusedSimpArgs false
open Go.RowKit

theorem pre_app {α : Type} {s t l : List α} {a : Nat} : s ++ t <+: l.drop a ↔ s <+: l.drop a ∧ t <+: l.drop (a + s.length) := by
  constructor
  · rintro ⟨r, hr⟩
    refine ⟨⟨t ++ r, by rw [← hr, List.append_assoc]⟩, ⟨r, ?_⟩⟩
    rw [← List.drop_drop, ← hr, List.append_assoc, List.drop_left]
  · rintro ⟨⟨r, hr⟩, ⟨q, hq⟩⟩
    refine ⟨q, ?_⟩
    rw [← List.drop_drop, ← hr, List.drop_left] at hq
    rw [List.append_assoc, hq, hr]
theorem pre_le {α : Type} {s l : List α} {a : Nat} (h : s <+: l.drop a) : s.length ≤ l.length - a := by
  have := h.length_le
  rw [List.length_drop] at this
  exact this
theorem pre_nil {α : Type} {l : List α} {a : Nat} : [] <+: l.drop a := ⟨l.drop a, rfl⟩
theorem pre_eq {α : Type} {s l : List α} (h : s <+: l.drop 0) (hl : s.length = l.length) : s = l := h.eq_of_length (by simpa using hl)

theorem uint_has {bs : List UInt8} {a u : Nat} (hu : u < 18446744073709551616) (h : enc u <+: bs.drop a) : uintR bs a 0 = (u, a + (enc u).length, 0) := by
  obtain ⟨r, hr⟩ := h
  refine uintR_some ?_
  rw [← hr]
  exact dec_enc u hu r
theorem dec_has {bs : List UInt8} {a u k : Nat} (hd : dec 0 0 (bs.drop a) = some (u, k)) : enc u <+: bs.drop a ∧ k = (enc u).length := by
  have h1 := enc_dec hd
  have h2 := dec_le _ _ _ _ _ hd
  have h3 : (enc u).length = k := by rw [h1, List.length_take]; omega
  exact ⟨by rw [h1]; exact List.take_prefix _ _, h3.symm⟩
theorem uint_of {bs : List UInt8} {a : Nat} {e : Int} (h : (uintR bs a e).2.2 = 0) : e = 0 ∧ (uintR bs a e).1 < 18446744073709551616 ∧ enc (uintR bs a e).1 <+: bs.drop a ∧ (uintR bs a e).2.1 = a + (enc (uintR bs a e).1).length := by
  by_cases he : e = 0
  · subst he
    cases hd : dec 0 0 (bs.drop a) with
    | none => rw [uintR_none hd] at h; cases h
    | some x =>
      obtain ⟨u, k⟩ := x
      have hlt := uintR_lt bs a 0
      rw [uintR_some hd] at hlt ⊢
      obtain ⟨h1, h2⟩ := dec_has hd
      exact ⟨rfl, hlt, h1, by rw [h2]⟩
  · exfalso
    unfold uintR at h
    rw [if_neg he] at h
    exact he h
theorem size_has {bs : List UInt8} {a u : Nat} {most : Int} (hu : u < 18446744073709551616) (hm : (u : Int) ≤ most) (h : enc u <+: bs.drop a) : sizeS bs a 0 most = (u, a + (enc u).length, 0) := by
  obtain ⟨r, hr⟩ := h
  have hd : dec 0 0 (bs.drop a) = some (u, (enc u).length) := by rw [← hr]; exact dec_enc u hu r
  unfold sizeS
  rw [if_pos rfl, sizeR_ok hd (by omega)]
theorem size_of {bs : List UInt8} {a : Nat} {e most : Int} (h : (sizeS bs a e most).2.2 = 0) : e = 0 ∧ ((sizeS bs a e most).1 : Int) ≤ most ∧ (sizeS bs a e most).1 < 18446744073709551616 ∧ enc (sizeS bs a e most).1 <+: bs.drop a ∧ (sizeS bs a e most).2.1 = a + (enc (sizeS bs a e most).1).length := by
  by_cases he : e = 0
  · subst he
    unfold sizeS at h ⊢
    rw [if_pos rfl] at h ⊢
    cases hd : dec 0 0 (bs.drop a) with
    | none => rw [sizeR_none hd] at h; cases h
    | some x =>
      obtain ⟨u, k⟩ := x
      by_cases hm : most < 0 ∨ most < (u : Int)
      · rw [sizeR_no hd hm] at h; cases h
      · rw [sizeR_ok hd hm]
        obtain ⟨h1, h2⟩ := dec_has hd
        exact ⟨rfl, by show (u : Int) ≤ most; omega, dec_lt _ 0 0 u k (by simp) hd, h1, by rw [h2]⟩
  · exfalso
    unfold sizeS at h
    rw [if_neg he] at h
    exact he h
theorem size_zero {bs : List UInt8} {a : Nat} {e most : Int} (h : (sizeS bs a e most).2.2 ≠ 0) : (sizeS bs a e most).1 = 0 := by
  unfold sizeS at h ⊢
  split
  · rename_i he
    rw [if_pos he] at h
    cases hs : sizeR (bs.drop a) most with
    | none => rfl
    | some x =>
      rw [hs] at h
      exact absurd rfl h
  · rfl
theorem sizeS_le {bs : List UInt8} {a : Nat} {e most : Int} (h0 : 0 ≤ most) : ((sizeS bs a e most).1 : Int) ≤ most := by
  by_cases h : (sizeS bs a e most).2.2 = 0
  · exact (size_of h).2.1
  · rw [size_zero h]; simpa using h0
theorem bytes_has {bs s : List UInt8} {a : Nat} (h : s <+: bs.drop a) : bytesS bs a 0 (s.length : Nat) = (s, a + s.length, 0) := by
  obtain ⟨r, hr⟩ := h
  unfold bytesS bytesR
  rw [if_pos rfl, if_neg (by rw [← hr]; simp; omega), ← hr]
  simp
theorem bytes_of {bs : List UInt8} {a k : Nat} {e : Int} (h : (bytesS bs a e (k : Nat)).2.2 = 0) : e = 0 ∧ (bytesS bs a e (k : Nat)).1.length = k ∧ (bytesS bs a e (k : Nat)).1 <+: bs.drop a ∧ (bytesS bs a e (k : Nat)).2.1 = a + k := by
  by_cases he : e = 0
  · subst he
    unfold bytesS bytesR at h ⊢
    rw [if_pos rfl] at h ⊢
    by_cases hm : (k : Int) < 0 ∨ ((bs.drop a).length : Int) < k
    · rw [if_pos hm] at h; cases h
    · rw [if_neg hm]
      refine ⟨rfl, ?_, ?_, ?_⟩
      · show ((bs.drop a).take (k : Int).toNat).length = k
        rw [List.length_take]; omega
      · exact List.take_prefix _ _
      · simp
  · exfalso
    unfold bytesS at h
    rw [if_neg he] at h
    exact he h

end Go.Proofs.YtpopbkcbplmcaaaGreat
