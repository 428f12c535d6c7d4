/- Three sets in memory, three rows of the document's beside them: words for memory. -/
import Derived.Test.YtapfbjaopbcgjaaDoorJoinW
import Derived.Test.YtapfbjaopbcgjaaDoorBitsS
import Derived.Test.YtapfbjaopbcgjaaDoorSame14
namespace Go.Proofs.YtapfbjaopbcgjaaDoor
set_option linter.unusedVariables false
set_option linter.unusedSimpArgs false
open Go.RowKit

def up3 {α : Type} (f : Nat → α) (p : Nat) (x : α) : Nat → α := fun i => if i = p then x else f i
theorem up3_at {α : Type} (f : Nat → α) (p : Nat) (x : α) : up3 f p x p = x := if_pos rfl
theorem up3_ne {α : Type} (f : Nat → α) {p i : Nat} (x : α) (h : i ≠ p) : up3 f p x i = f i := if_neg h
theorem up3_same {α : Type} (f : Nat → α) (p : Nat) : up3 f p (f p) = f := by
  funext i
  unfold up3
  split
  · rename_i h; rw [h]
  · rfl
def three (v : Nat → Value) : List Value := [v 0, v 1, v 2]
theorem three_at (v : Nat → Value) {p : Nat} (h : p < 3) : (three v)[p]? = some (v p) := by
  unfold three
  rcases (by omega : p = 0 ∨ p = 1 ∨ p = 2) with rfl | rfl | rfl <;> rfl
theorem three_set (v : Nat → Value) {p : Nat} (h : p < 3) (x : Value) : (three v).set p x = three (up3 v p x) := by
  unfold three up3
  rcases (by omega : p = 0 ∨ p = 1 ∨ p = 2) with rfl | rfl | rfl <;> rfl

/-- a set, or none, at known blocks. -/
def BVg (w : World) (B : Nat) (v : Value) (g gw : Nat) (l : List Bool) : Prop := (v = .pointer none ∧ l = []) ∨ (v = .pointer (some ⟨g, 0, none⟩) ∧ BT w B g gw l)
/-- the blocks of such a set. -/
def Sets (v : Value) (g gw : Nat) : Nat → Prop := fun k => v = .pointer (some ⟨g, 0, none⟩) ∧ k = gw
section
variable {S : Nat → Prop} {w w' : World} {B g gw : Nat} {v : Value} {l : List Bool}
theorem BVg.bv (h : BVg w B v g gw l) : BV w B v l := by
  rcases h with h | ⟨rfl, h⟩
  · exact .inl h
  · exact .inr ⟨g, gw, rfl, h⟩
theorem BVg.fr (h : BVg w B v g gw l) (f : Fr S w w') (h1 : ∀ o, v = .pointer (some o) → ¬ S g ∧ ¬ S gw) : BVg w' B v g gw l := by
  rcases h with h | ⟨rfl, h⟩
  · exact .inl h
  · exact .inr ⟨rfl, h.fr f (h1 _ rfl).1 (h1 _ rfl).2⟩
theorem BVg.fr0 (h : BVg w B v g gw l) (f : Fr No w w') : BVg w' B v g gw l := h.fr f (fun _ _ => ⟨fun h => h, fun h => h⟩)
theorem BVg.lower {b2 : Nat} (h : BVg w B v g gw l) (hb : b2 ≤ B) : BVg w b2 v g gw l := by
  rcases h with h | ⟨rfl, h⟩
  · exact .inl h
  · exact .inr ⟨rfl, h.lower hb⟩
theorem BVg.ptr (h : BVg w B v g gw l) : ∃ o, v = .pointer o := by
  rcases h with ⟨rfl, _⟩ | ⟨rfl, _⟩ <;> exact ⟨_, rfl⟩
end

structure Trio (w : World) (B : Nat) (v r : Nat → Value) (L : Nat → List Bool) (g gw : Nat → Nat) : Prop where
  bv : ∀ i, i < 3 → BVg w B (v i) (g i) (gw i) (L i)
  row : ∀ i, i < 3 → Own w B 4 1 (r i) (L i).length (bz (L i))
  most : ∀ i, i < 3 → (L i).length ≤ 16384
  dg : ∀ i j, i < 3 → j < 3 → i ≠ j → ∀ a b, v i = .pointer (some a) → v j = .pointer (some b) → g i ≠ g j ∧ gw i ≠ gw j
  dr : ∀ i j, i < 3 → j < 3 → i ≠ j → ∀ k, (r i).ownBlock = some k → (r j).ownBlock ≠ some k
section
variable {S : Nat → Prop} {w w' : World} {B : Nat} {v r : Nat → Value} {L : Nat → List Bool} {g gw : Nat → Nat}
/-- what no set and no row of the three lies in. -/
theorem Trio.fr (T : Trio w B v r L g gw) (f : Fr S w w') (h1 : ∀ i, i < 3 → ∀ o, v i = .pointer (some o) → ¬ S (g i) ∧ ¬ S (gw i)) (h2 : ∀ i, i < 3 → ∀ k, (r i).ownBlock = some k → ¬ S k) : Trio w' B v r L g gw :=
  ⟨fun i hi => (T.bv i hi).fr f (h1 i hi), fun i hi => (T.row i hi).fr f (h2 i hi), T.most, T.dg, T.dr⟩
theorem Trio.fr0 (T : Trio w B v r L g gw) (f : Fr No w w') : Trio w' B v r L g gw := T.fr f (fun _ _ _ _ => ⟨fun h => h, fun h => h⟩) (fun _ _ _ _ h => h)
theorem Trio.other {b2 e2 s2 n2 : Nat} {v2 : Value} {xs2 : List Value} (T : Trio w B v r L g gw) (o : Own w b2 e2 s2 v2 n2 xs2) (h1 : e2 ≠ 68) (h2 : e2 ≠ 23) (h3 : e2 ≠ 4) (f : Fr (fun k => v2.ownBlock = some k) w w') : Trio w' B v r L g gw := by
  refine T.fr f (fun i hi o' ho => ?_) (fun i hi k hk e => (T.row i hi).apart o (fun h => h3 h.symm) k hk e)
  rcases T.bv i hi with ⟨h, _⟩ | ⟨h, hb⟩
  · rw [ho] at h; cases h
  · exact ⟨fun e => o.ne_blk e hb.blk h1, fun e => hb.own.apart o (fun h => h2 h.symm) _ rfl e⟩
/-- one set and its row are new. -/
theorem Trio.fresh (T : Trio w B v r L g gw) (f : Fr No w w') {p : Nat} (hp : p < 3) (hB : B ≤ w.heap.size) {v' r' : Value} {l' : List Bool} {g' gw' : Nat}
    (hv : BVg w' w.heap.size v' g' gw' l') (hr : Own w' w.heap.size 4 1 r' l'.length (bz l')) (hm : l'.length ≤ 16384) : Trio w' B (up3 v p v') (up3 r p r') (up3 L p l') (up3 g p g') (up3 gw p gw') := by
  have T' := T.fr0 f
  refine ⟨fun i hi => ?_, fun i hi => ?_, fun i hi => ?_, fun i j hi hj hij a b ha hb => ?_, fun i j hi hj hij k hk hk2 => ?_⟩
  · by_cases h : i = p
    · subst h; simp only [up3_at]; exact hv.lower hB
    · simp only [up3_ne _ _ h]; exact T'.bv i hi
  · by_cases h : i = p
    · subst h; simp only [up3_at]; exact hr.lower hB
    · simp only [up3_ne _ _ h]; exact T'.row i hi
  · by_cases h : i = p
    · subst h; simp only [up3_at]; exact hm
    · simp only [up3_ne _ _ h]; exact T.most i hi
  · have old : ∀ i, i < 3 → ∀ a, v i = .pointer (some a) → g i < w.heap.size ∧ gw i < w.heap.size := by
      intro i hi a ha
      rcases T.bv i hi with ⟨h, _⟩ | ⟨h, hb⟩
      · rw [ha] at h; cases h
      · exact ⟨hb.lt.2.1, hb.lt.2.2.2⟩
    have new : ∀ a, v' = .pointer (some a) → w.heap.size ≤ g' ∧ w.heap.size ≤ gw' := by
      intro a ha
      rcases hv with ⟨h, _⟩ | ⟨h, hb⟩
      · rw [ha] at h; cases h
      · exact ⟨hb.lt.1, hb.lt.2.2.1⟩
    by_cases h : i = p
    · subst h
      have h2 : j ≠ i := fun e => hij e.symm
      simp only [up3_at, up3_ne _ _ h2] at ha hb ⊢
      have := old j hj b hb
      have := new a ha
      omega
    · by_cases h2 : j = p
      · subst h2
        simp only [up3_at, up3_ne _ _ h] at ha hb ⊢
        have := old i hi a ha
        have := new b hb
        omega
      · simp only [up3_ne _ _ h, up3_ne _ _ h2] at ha hb ⊢
        exact T.dg i j hi hj hij a b ha hb
  · by_cases h : i = p
    · subst h
      have h2 : j ≠ i := fun e => hij e.symm
      simp only [up3_at, up3_ne _ _ h2] at hk hk2
      have := (hr.lt k hk).1
      have := ((T.row j hj).lt k hk2).2
      omega
    · by_cases h2 : j = p
      · subst h2
        simp only [up3_at, up3_ne _ _ h] at hk hk2
        have := (hr.lt k hk2).1
        have := ((T.row i hi).lt k hk).2
        omega
      · simp only [up3_ne _ _ h, up3_ne _ _ h2] at hk hk2
        exact T.dr i j hi hj hij k hk hk2
/-- one set's words are written. -/
theorem Trio.words (T : Trio w B v r L g gw) {p : Nat} (hp : p < 3) (f : Fr (Sets (v p) (g p) (gw p)) w w') :
    (∀ i, i < 3 → i ≠ p → BVg w' B (v i) (g i) (gw i) (L i)) ∧ (∀ i, i < 3 → Own w' B 4 1 (r i) (L i).length (bz (L i))) := by
  refine ⟨fun i hi hip => (T.bv i hi).fr f (fun o ho => ?_), fun i hi => (T.row i hi).fr f (fun k hk e => ?_)⟩
  · rcases T.bv i hi with ⟨h, _⟩ | ⟨h, hb⟩
    · rw [ho] at h; cases h
    · refine ⟨fun e => ?_, fun e => ?_⟩
      · rcases T.bv p hp with ⟨h2, _⟩ | ⟨h2, hb2⟩
        · have := e.1; rw [h2] at this; cases this
        · have e2 := e.2
          have := hb2.own.ne_blk (g := g i) (by rw [e2]; rfl) hb.blk (by decide)
          exact this
      · exact (T.dg i p hi hp hip _ _ h e.1).2 e.2
  · rcases T.bv p hp with ⟨h2, _⟩ | ⟨h2, hb2⟩
    · have := e.1; rw [h2] at this; cases this
    · exact (T.row i hi).apart hb2.own (by decide) k hk (by rw [e.2]; rfl)
/-- a set is written, then its row. -/
theorem Trio.put {w2 : World} (T : Trio w B v r L g gw) {p : Nat} (hp : p < 3) (f : Fr (Sets (v p) (g p) (gw p)) w w') {l' : List Bool} (hv : BVg w' B (v p) (g p) (gw p) l') (f2 : Fr (fun k => (r p).ownBlock = some k) w' w2)
    (hr : Own w2 B 4 1 (r p) l'.length (bz l')) (hm : l'.length ≤ 16384) : Trio w2 B v r (up3 L p l') g gw := by
  obtain ⟨a1, a2⟩ := T.words hp f
  have own := a2 p hp
  refine ⟨fun i hi => ?_, fun i hi => ?_, fun i hi => ?_, T.dg, T.dr⟩
  · by_cases h : i = p
    · subst h
      simp only [up3_at]
      refine hv.fr f2 (fun o ho => ?_)
      rcases hv with ⟨h, _⟩ | ⟨h, hb⟩
      · rw [ho] at h; cases h
      · exact ⟨fun e => own.ne_blk e hb.blk (by decide), fun e => hb.own.apart own (by decide) _ rfl e⟩
    · simp only [up3_ne _ _ h]
      refine (a1 i hi h).fr f2 (fun o ho => ?_)
      rcases a1 i hi h with ⟨h, _⟩ | ⟨h, hb⟩
      · rw [ho] at h; cases h
      · exact ⟨fun e => own.ne_blk e hb.blk (by decide), fun e => hb.own.apart own (by decide) _ rfl e⟩
  · by_cases h : i = p
    · subst h; simp only [up3_at]; exact hr
    · simp only [up3_ne _ _ h]
      exact (a2 i hi).fr f2 (fun k hk e => T.dr i p hi hp h k hk e)
  · by_cases h : i = p
    · subst h; simp only [up3_at]; exact hm
    · simp only [up3_ne _ _ h]; exact T.most i hi
end
theorem trio_none (w : World) (B : Nat) : Trio w B (fun _ => .pointer none) (fun _ => .slice none 0 0) (fun _ => []) (fun _ => 0) (fun _ => 0) :=
  ⟨fun i hi => .inl ⟨rfl, rfl⟩, fun i hi => Own.nil _ _ _ _, fun i hi => by simp, fun i j _ _ _ a b ha => (by cases ha), fun i j _ _ _ k hk => (by simp [Value.ownBlock] at hk)⟩
/-- Set and Clear, of a set or none. -/
def GivesSetG (B : Nat) (v : Value) (g gw : Nat) (l : List Bool) (w : World) (en : Ending) (w' : World) : Prop := (∃ u, en = .returned u) ∧ BVg w' B v g gw l ∧ Fr (Sets v g gw) w w'
theorem setI_nil (i : Int) (b : Bool) : setI [] i b = [] := by unfold setI; split <;> rfl
theorem set_g (B : Nat) (v : Value) (g gw : Nat) (l : List Bool) (i : Int) (w : World) (h : BVg w B v g gw l) :
    Calls Tryd.prog 20 #[v, .int .i64 i] w (GivesSetG B v g gw (setI l i true) w) := by
  rcases h with ⟨rfl, rfl⟩ | ⟨rfl, h⟩
  · exact (set_out B _ [] i w (.inl ⟨rfl, rfl⟩) (by simp)).mono fun en w' ⟨he, hw⟩ => by subst hw; exact ⟨he, .inl ⟨rfl, setI_nil _ _⟩, Fr.refl _ _⟩
  · exact (set_any B g gw l i w h).mono fun en w' ⟨he, hb, hf⟩ => ⟨he, .inr ⟨rfl, hb⟩, hf.mono fun k _ hk => ⟨rfl, hk⟩⟩
theorem clr_g (B : Nat) (v : Value) (g gw : Nat) (l : List Bool) (i : Int) (w : World) (h : BVg w B v g gw l) :
    Calls Tryd.prog 21 #[v, .int .i64 i] w (GivesSetG B v g gw (setI l i false) w) := by
  rcases h with ⟨rfl, rfl⟩ | ⟨rfl, h⟩
  · exact (clr_out B _ [] i w (.inl ⟨rfl, rfl⟩) (by simp)).mono fun en w' ⟨he, hw⟩ => by subst hw; exact ⟨he, .inl ⟨rfl, setI_nil _ _⟩, Fr.refl _ _⟩
  · exact (clr_any B g gw l i w h).mono fun en w' ⟨he, hb, hf⟩ => ⟨he, .inr ⟨rfl, hb⟩, hf.mono fun k _ hk => ⟨rfl, hk⟩⟩

theorem make_bools0 (W : World) : ∃ z, z = madeCells #[Value.bool false] 0 ∧ (Instr.makeSlice 29 (.int .i64 0) (.int .i64 0)).run Tryd.prog W = .ok (.slice (some ⟨W.heap.size, 0, none⟩) 0 0) (W.alloc (.cells z 4)) :=
  ⟨_, rfl, make_bools 0 (by omega) W⟩
theorem make_boolsT (W : World) : ∃ z, z = madeCells #[Value.bool false] 16384 ∧ (Instr.makeSlice 29 (.int .i64 16384) (.int .i64 16384)).run Tryd.prog W = .ok (.slice (some ⟨W.heap.size, 0, none⟩) 16384 16384) (W.alloc (.cells z 4)) :=
  ⟨_, rfl, make_bools 16384 (by omega) W⟩
set_option maxRecDepth 100000 in
set_option maxHeartbeats 800000 in
theorem refNew_any (n : Int) (b : Bool) (w : World) (h1 : -9223372036854775808 ≤ n) (h2 : n ≤ 9223372036854775807) : Calls Tryd.prog 19 #[.int .i64 n, .bool b] w (GivesBz w (List.replicate (clampN n) b)) := by
  unfold clampN
  by_cases hneg : n < 0
  · rw [if_pos hneg]
    obtain ⟨z, hz, hm⟩ := make_bools0 w
    have HO : Hid (Own (w.alloc (.cells z 4)) w.heap.size 4 1 (.slice (some ⟨w.heap.size, 0, none⟩) 0 0) 0 []) := hide (by rw [hz]; exact made_own w 0 4 (.bool false) _ rfl (by unfold maxLen; omega))
    clear hz
    go_enter Tryd.func19, Tryd.ntmps19
    go_wp2
    go_loop [6] (fun i => i = .int .i64 0) (fun _ => 0)
    case atStart => rfl
    case round =>
      subst hrel
      go_wp2
      go_ret
      exact ⟨_, rfl, HO.out, (Fr.refl _ _).alloc _⟩
  · rw [if_neg hneg]
    by_cases hbig : 16384 < n
    · rw [if_pos hbig]
      obtain ⟨z, hz, hm⟩ := make_boolsT w
      have HO : Hid (Own (w.alloc (.cells z 4)) w.heap.size 4 1 (.slice (some ⟨w.heap.size, 0, none⟩) 16384 16384) 16384 (bz (part b 16384 0))) := hide (by
        have h := made_own w 16384 4 (.bool false) _ rfl (by unfold maxLen; omega)
        rw [part_none, bz, List.map_replicate, hz]
        exact h)
      clear hz
      have HE : Hid (∀ v W, Own W w.heap.size 4 1 v 16384 (bz (part b 16384 16384)) → Fr No w W → GivesBz w (List.replicate 16384 b) (.returned v) W) := hide fun v W h f => ⟨_, rfl, by rw [List.length_replicate, ← part_all]; exact h, f⟩
      generalize List.replicate 16384 b = LL at HE ⊢
      go_enter Tryd.func19, Tryd.ntmps19
      go_wp2
      go_loopw [6] (fun i wr => ∃ k : Nat, k ≤ 16384 ∧ i = .int .i64 k ∧ Hid (Own wr w.heap.size 4 1 (.slice (some ⟨w.heap.size, 0, none⟩) 16384 16384) 16384 (bz (part b 16384 k))) ∧ Hid (Fr No w wr)) (fun i _ => 16384 - (intOf i).toNat)
      case atStart => exact ⟨0, by omega, rfl, HO, hide ((Fr.refl _ _).alloc _)⟩
      case round =>
        clear HO
        obtain ⟨k, hk, rfl, OW, FW⟩ := hrel
        by_cases hlt : k < 16384
        · obtain ⟨g', e, _, _, hcell, hfz, hst⟩ := OW.out.store hlt
          have e1 : w.heap.size = g' := by injection e with e; injection e
          subst e1
          rw [bz_at _ (by rw [part_len (by omega)]; exact hlt)] at hcell
          have HS := hide (hst (.bool b))
          rw [part_set hlt] at HS
          generalize hasN (part b 16384 k) k = old at hcell
          clear hst e
          go_wp2
          go_roundw
          case rel => exact ⟨k + 1, by omega, by go_num, HS, hide (FW.out.setCell (p := ⟨w.heap.size, k, none⟩) (fun h => absurd h (Nat.lt_irrefl _)) _)⟩
          case measure => simp [intOf]; omega
        · obtain rfl : k = 16384 := by omega
          go_wp2
          go_ret
          exact HE.out _ _ OW.out FW.out
    · rw [if_neg hbig]
      obtain ⟨k, rfl⟩ : ∃ k : Nat, n = k := ⟨n.toNat, by omega⟩
      rw [Int.toNat_natCast]
      exact refNew_mid k b w (by omega)
end Go.Proofs.YtapfbjaopbcgjaaDoor
