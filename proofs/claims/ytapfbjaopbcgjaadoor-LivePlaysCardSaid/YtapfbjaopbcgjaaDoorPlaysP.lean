/- LivePlays: words for memory: steps that are read, what a round keeps. -/
import Derived.Test.YtapfbjaopbcgjaaDoorTrio
namespace Go.Proofs.YtapfbjaopbcgjaaDoor
set_option linter.unusedVariables false
set_option linter.unusedSimpArgs false
open Go.RowKit

structure StepV where
  kind : Int
  who : Int
  other : Int
  n : Int
  all : Bool
/-- steps that are read. -/
def StRd (w : World) (B : Nat) (A : Option Addr) (l : List StepV) : Prop :=
  ∀ j s, l[j]? = some s → ∃ ad, A = some ad ∧ ad.block < B ∧ w.cell? (ad.add (j * 5)) = some (.int .i64 s.kind) ∧
    w.cell? ⟨(ad.add (j * 5)).block, (ad.add (j * 5)).off + 1, none⟩ = some (.int .i64 s.who) ∧ w.cell? ⟨(ad.add (j * 5)).block, (ad.add (j * 5)).off + 2, none⟩ = some (.int .i64 s.other) ∧
    w.cell? ⟨(ad.add (j * 5)).block, (ad.add (j * 5)).off + 3, none⟩ = some (.int .i64 s.n) ∧ w.cell? ⟨(ad.add (j * 5)).block, (ad.add (j * 5)).off + 4, none⟩ = some (.bool s.all)
theorem StRd.fr0 {w w' : World} {B : Nat} {A : Option Addr} {l : List StepV} (h : StRd w B A l) (f : Fr No w w') : StRd w' B A l := fun j s hs => by
  obtain ⟨ad, e, hb, h0, h1, h2, h3, h4⟩ := h j s hs
  exact ⟨ad, e, hb, f.cell h0 (fun h => h), f.cell h1 (fun h => h), f.cell h2 (fun h => h), f.cell h3 (fun h => h), f.cell h4 (fun h => h)⟩

theorem Tryd.infoPtr : (Tryd.prog.info? 26).map (fun i => (i.zero, i.size, i.bytes)) = some (some (.pointer none), 1, 8) := by kernel_rfl
theorem Tryd.infoBs : (Tryd.prog.info? 29).map (fun i => (i.zero, i.size, i.bytes)) = some (some (.slice none 0 0), 1, 24) := by kernel_rfl
theorem make3p (W : World) : ∃ z, z = madeCells #[Value.pointer none] 3 ∧ (Instr.makeSlice 37 (.int .i64 3) (.int .i64 3)).run Tryd.prog W = .ok (.slice (some ⟨W.heap.size, 0, none⟩) 3 3) (W.alloc (.cells z 26)) := by
  refine ⟨_, rfl, ?_⟩
  obtain ⟨i0, hi, hz, hsz, hby⟩ := info_parts Tryd.infoPtr
  have h := run_make (P := Tryd.prog) W 37 26 i0 (.pointer none) Tryd.underlying37 hi hz .i64 .i64 3 3 (by omega) (by omega) (by rw [hby]; omega) (by omega)
  rw [hsz] at h
  exact h
theorem make3b (W : World) : ∃ z, z = madeCells #[Value.slice none 0 0] 3 ∧ (Instr.makeSlice 38 (.int .i64 3) (.int .i64 3)).run Tryd.prog W = .ok (.slice (some ⟨W.heap.size, 0, none⟩) 3 3) (W.alloc (.cells z 29)) := by
  refine ⟨_, rfl, ?_⟩
  obtain ⟨i0, hi, hz, hsz, hby⟩ := info_parts Tryd.infoBs
  have h := run_make (P := Tryd.prog) W 38 29 i0 (.slice none 0 0) Tryd.underlying38 hi hz .i64 .i64 3 3 (by omega) (by omega) (by rw [hby]; omega) (by omega)
  rw [hsz] at h
  exact h

/-- all that the rounds keep. -/
structure PI (w : World) (v r : Nat → Value) (W : World) : Prop where
  fr : Fr No w W
  sets : Own W w.heap.size 26 1 (.slice (some ⟨w.heap.size, 0, none⟩) 3 3) 3 (three v)
  rows : Own W w.heap.size 29 1 (.slice (some ⟨w.heap.size + 1, 0, none⟩) 3 3) 3 (three r)
theorem PI.fr0 {w W W' : World} {v r : Nat → Value} (h : PI w v r W) (f : Fr No W W') : PI w v r W' := ⟨h.fr.tr f, h.sets.fr0 f, h.rows.fr0 f⟩
theorem PI.cellv {w W : World} {v r : Nat → Value} (h : PI w v r W) {p : Nat} (hp : p < 3) : W.cell? ⟨w.heap.size, p, none⟩ = some (v p) := by
  obtain ⟨g, e, _, _, hc, _⟩ := h.sets.store hp
  injection e with e
  injection e with e
  subst e
  rw [hc, three_at v hp]
theorem PI.cellr {w W : World} {v r : Nat → Value} (h : PI w v r W) {p : Nat} (hp : p < 3) : W.cell? ⟨w.heap.size + 1, p, none⟩ = some (r p) := by
  obtain ⟨g, e, _, _, hc, _⟩ := h.rows.store hp
  injection e with e
  injection e with e
  subst e
  rw [hc, three_at r hp]

/-- a step in a block of its own. -/
structure StB (W : World) (sg : Nat) (kind who other n : Int) (all : Bool) : Prop where
  blk : W.heap[sg]? = some (.cells #[.int .i64 kind, .int .i64 who, .int .i64 other, .int .i64 n, .bool all] 40 (0, 0))
section
variable {w W W' : World} {sg : Nat} {kind who other n : Int} {all : Bool} {v r v0 r0 : Nat → Value} {L : Nat → List Bool} {g gw : Nat → Nat}
theorem StB.cells (h : StB W sg kind who other n all) : W.cell? ⟨sg, 0, none⟩ = some (.int .i64 kind) ∧ W.cell? ⟨sg, 1, none⟩ = some (.int .i64 who) ∧ W.cell? ⟨sg, 2, none⟩ = some (.int .i64 other) ∧ W.cell? ⟨sg, 3, none⟩ = some (.int .i64 n) ∧ W.cell? ⟨sg, 4, none⟩ = some (.bool all) :=
  ⟨cell_of_row _ _ 0 _ _ _ h.blk, cell_of_row _ _ 1 _ _ _ h.blk, cell_of_row _ _ 2 _ _ _ h.blk, cell_of_row _ _ 3 _ _ _ h.blk, cell_of_row _ _ 4 _ _ _ h.blk⟩
theorem StB.fr0 (h : StB W sg kind who other n all) (f : Fr No W W') : StB W' sg kind who other n all := ⟨f.blk h.blk (fun h => h)⟩
theorem StB.oth {b2 e2 s2 n2 : Nat} {v2 : Value} {xs2 : List Value} (h : StB W sg kind who other n all) (o : Own W b2 e2 s2 v2 n2 xs2) (hne : e2 ≠ 40) (f : Fr (fun k => v2.ownBlock = some k) W W') : StB W' sg kind who other n all :=
  ⟨f.blk h.blk (fun e => o.ne_blk e h.blk hne)⟩
theorem Fr.of_sets {p : Nat} (T : Trio W w.heap.size v r L g gw) (hp : p < 3) (f : Fr (Sets (v p) (g p) (gw p)) W W') : Fr No W W' ∨ ∃ o, BT W w.heap.size (g p) (gw p) (L p) ∧ v p = .pointer (some o) ∧ Fr (fun k => (Value.slice (some ⟨gw p, 0, none⟩) (wcount (L p).length) (wcount (L p).length)).ownBlock = some k) W W' := by
  rcases T.bv p hp with ⟨h, _⟩ | ⟨h, hb⟩
  · exact .inl (f.mono fun k _ hk => by have := hk.1; rw [h] at this; cases this)
  · exact .inr ⟨_, hb, h, f.mono fun k _ hk => by rw [hk.2]; rfl⟩
theorem StB.words {p : Nat} (h : StB W sg kind who other n all) (T : Trio W w.heap.size v r L g gw) (hp : p < 3) (f : Fr (Sets (v p) (g p) (gw p)) W W') : StB W' sg kind who other n all := by
  rcases Fr.of_sets T hp f with f | ⟨o, hb, _, f⟩
  · exact h.fr0 f
  · exact h.oth hb.own (by decide) f
theorem PI.oth {e2 s2 n2 : Nat} {v2 : Value} {xs2 : List Value} (h : PI w v0 r0 W) (o : Own W w.heap.size e2 s2 v2 n2 xs2) (h1 : 26 ≠ e2) (h2 : 29 ≠ e2) (f : Fr (fun k => v2.ownBlock = some k) W W') : PI w v0 r0 W' :=
  ⟨h.fr.trans f (fun i hi e => by have := (o.lt i e).1; omega), h.sets.fr f (fun k hk e => h.sets.apart o h1 k hk e), h.rows.fr f (fun k hk e => h.rows.apart o h2 k hk e)⟩
theorem PI.words {p : Nat} (h : PI w v0 r0 W) (T : Trio W w.heap.size v r L g gw) (hp : p < 3) (f : Fr (Sets (v p) (g p) (gw p)) W W') : PI w v0 r0 W' := by
  rcases Fr.of_sets T hp f with f | ⟨o, hb, _, f⟩
  · exact h.fr0 f
  · exact h.oth hb.own (by decide) (by decide) f
theorem PI.setv {p : Nat} (h : PI w v r W) (hp : p < 3) (x : Value) : PI w (up3 v p x) r (W.setCell ⟨w.heap.size, p, none⟩ x) ∧ Fr (fun k => (Value.slice (some ⟨w.heap.size, 0, none⟩) 3 3).ownBlock = some k) W (W.setCell ⟨w.heap.size, p, none⟩ x) := by
  have f := Fr.putO W w.heap.size p 3 3 x
  obtain ⟨g, e, _, _, _, _, hst⟩ := h.sets.store hp
  injection e with e
  injection e with e
  subst e
  have h2 := hst x
  rw [three_set v hp] at h2
  exact ⟨⟨h.fr.trans f (fun i hi e => by have := (h.sets.lt i e).1; omega), h2, h.rows.fr f (fun k hk e => h.rows.apart h.sets (by decide) k hk e)⟩, f⟩
theorem PI.setr {p : Nat} (h : PI w v r W) (hp : p < 3) (x : Value) : PI w v (up3 r p x) (W.setCell ⟨w.heap.size + 1, p, none⟩ x) ∧ Fr (fun k => (Value.slice (some ⟨w.heap.size + 1, 0, none⟩) 3 3).ownBlock = some k) W (W.setCell ⟨w.heap.size + 1, p, none⟩ x) := by
  have f := Fr.putO W (w.heap.size + 1) p 3 3 x
  obtain ⟨g, e, _, _, _, _, hst⟩ := h.rows.store hp
  injection e with e
  injection e with e
  subst e
  have h2 := hst x
  rw [three_set r hp] at h2
  exact ⟨⟨h.fr.trans f (fun i hi e => by have := (h.rows.lt i e).1; omega), h.sets.fr f (fun k hk e => h.sets.apart h.rows (by decide) k hk e), h2⟩, f⟩
theorem Trio.oth2 (T : Trio W w.heap.size v r L g gw) (P : PI w v0 r0 W) (f : Fr (fun k => (Value.slice (some ⟨w.heap.size, 0, none⟩) 3 3).ownBlock = some k) W W') : Trio W' w.heap.size v r L g gw := T.other P.sets (by decide) (by decide) (by decide) f
theorem PI.fzv {p : Nat} (h : PI w v r W) (hp : p < 3) : W.frozen? ⟨w.heap.size, p, none⟩ = false := by
  obtain ⟨g, e, _, _, _, hf, _⟩ := h.sets.store hp
  injection e with e
  injection e with e
  subst e
  exact hf
theorem PI.fzr {p : Nat} (h : PI w v r W) (hp : p < 3) : W.frozen? ⟨w.heap.size + 1, p, none⟩ = false := by
  obtain ⟨g, e, _, _, _, hf, _⟩ := h.rows.store hp
  injection e with e
  injection e with e
  subst e
  exact hf
end
/-- behind the switch: the new set and row are not laid yet. -/
def Mid (w : World) (v r : Nat → Value) (p sg : Nat) (kind who other n : Int) (all : Bool) (b m : Value) (W : World) : Prop :=
  ∃ L g gw, Trio W w.heap.size (up3 v p b) (up3 r p m) L g gw ∧ PI w v r W ∧ StB W sg kind who other n all
theorem Mid.fresh {w W W' : World} {v r : Nat → Value} {p sg : Nat} {kind who other n : Int} {all : Bool} {L : Nat → List Bool} {g gw : Nat → Nat} {b m : Value} {g' gw' : Nat} {l' : List Bool}
    (T : Trio W w.heap.size v r L g gw) (P : PI w v r W) (B : StB W sg kind who other n all) (f : Fr No W W') (hp : p < 3) (hv : BVg W' W.heap.size b g' gw' l') (hr : Own W' W.heap.size 4 1 m l'.length (bz l')) (hm : l'.length ≤ 16384) :
    Mid w v r p sg kind who other n all b m W' := ⟨_, _, _, T.fresh f hp P.fr.size hv hr hm, P.fr0 f, B.fr0 f⟩
theorem Mid.put {w W W' W2 : World} {v r : Nat → Value} {p sg : Nat} {kind who other n : Int} {all : Bool} {L : Nat → List Bool} {g gw : Nat → Nat} {l' : List Bool} {m : Value}
    (T : Trio W w.heap.size v r L g gw) (P : PI w v r W) (B : StB W sg kind who other n all) (hp : p < 3) (f : Fr (Sets (v p) (g p) (gw p)) W W') (hv : BVg W' w.heap.size (v p) (g p) (gw p) l') (f2 : Fr (fun k => (r p).ownBlock = some k) W' W2)
    (hm : m = r p) (hr : Own W2 w.heap.size 4 1 (r p) l'.length (bz l')) (hl : l'.length ≤ 16384) : Mid w v r p sg kind who other n all (v p) m W2 := by
  subst hm
  have o := (T.words hp f).2 p hp
  refine ⟨_, _, _, by rw [up3_same, up3_same]; exact T.put hp f hv f2 hr hl, (P.words T hp f).oth o (by decide) (by decide) f2, (B.words T hp f).oth o (by decide) f2⟩
theorem joinL_nil (a : List Bool) : joinL (fun p q => p || q) a [] = a := by
  conv => rhs; rw [← range_has a]
  unfold joinL
  apply List.map_congr_left
  intro j _
  rw [hasN_big (l := ([] : List Bool)) (by simp)]
  simp

end Go.Proofs.YtapfbjaopbcgjaaDoor
