/- The statements' own list of a set's numbers: each. Condition: the library's table lies as laid. -/
import Derived.Test.YtapfbjaopbcgjaaDoorEach
namespace Go.Proofs.YtapfbjaopbcgjaaDoor
set_option linter.unusedVariables false
set_option linter.unusedSimpArgs false
open Go.RowKit Go.Shelf
attribute [local go_sem] Oper.semAt_some

theorem Tryd.infoInt : (Tryd.prog.info? 3).map (fun i => (i.zero, i.size, i.bytes)) = some (some (.int .i64 0), 1, 8) := by kernel_rfl
theorem ints_len (l : List Nat) : (ints l).length = l.length := by simp [ints]
theorem ints_snoc (l : List Nat) (x : Nat) : ints (l ++ [x]) = ints l ++ [.int .i64 (x : Nat)] := by simp [ints]
/-- new numbers. -/
def GivesN (w : World) (xs : List Nat) (en : Ending) (w' : World) : Prop := ∃ v, en = .returned v ∧ Own w' w.heap.size 3 1 v xs.length (ints xs) ∧ Fr No w w'
theorem box_heap (w : World) (v : Value) (t : TypeId) : (w.alloc (.cells #[v] t)).heap[w.heap.size]? = some (.cells #[v] t (0, 0)) := heap_alloc_new w _

/-- what each keeps between two rounds. -/
structure EI (w : World) (U : Nat) (pre : List Nat) (W : World) : Prop where
  fr : Fr No w W
  sz : w.heap.size + 3 ≤ W.heap.size
  up : W.heap[w.heap.size]? = some (.cells #[.int .i64 (U : Nat)] 3 (0, 0))
  own : ∃ v, W.heap[w.heap.size + 1]? = some (.cells #[v] 47 (0, 0)) ∧ Own W (w.heap.size + 3) 3 1 v pre.length (ints pre)
theorem EI.kept {w : World} {U : Nat} {pre : List Nat} {W W' : World} {row : Option Nat} (h : EI w U pre W) (hg : W.grownBy W' row) (hr : ∀ r, row = some r → w.heap.size ≤ r ∧ ∃ o : Obj, W.heap[r]? = some o ∧ o.isCells = false) : EI w U pre W' := by
  have hr2 : ∀ r, row = some r → ∃ o : Obj, W.heap[r]? = some o ∧ o.isCells = false := fun r e => (hr r e).2
  obtain ⟨v, h1, h2⟩ := h.own
  exact ⟨h.fr.trans (Fr.of_grown hg) (fun i hi e => by have := (hr i e).1; omega), Nat.le_trans h.sz (Fr.of_grown hg).size, blk_kept h.up rfl hg hr2, v, blk_kept h1 rfl hg hr2, own_kept h2 hg hr2⟩
theorem EI.from (w : World) (U B : Nat) (hB : w.heap.size ≤ B) : OwnFrom B (fun pre W => EI w U pre W ∧ pre.length < U) := by
  rintro pre W W' row ⟨h, hl⟩ hg hr
  exact ⟨h.kept hg (fun r e => ⟨by have := (hr r e).1; omega, (hr r e).2⟩), hl⟩
theorem EI.from2 (w : World) (U B : Nat) (hB : w.heap.size ≤ B) (c0 c : Code) : OwnFrom B (fun pre W => c = c0 ∧ EI w U pre W ∧ pre.length = U) := by
  rintro pre W W' row ⟨hc, h, hl⟩ hg hr
  exact ⟨hc, h.kept hg (fun r e => ⟨by have := (hr r e).1; omega, (hr r e).2⟩), hl⟩
/-- a round's step. -/
theorem EI.step {w : World} {U : Nat} {pre : List Nat} {W w1 : World} {v v1 : Value} {x : Nat} {o : Obj} (E : EI w U pre W) (hb : W.heap[w.heap.size + 1]? = some (.cells #[v] 47 (0, 0))) (ho : Own W (w.heap.size + 3) 3 1 v pre.length (ints pre))
    (h1 : Own w1 (w.heap.size + 3) 3 1 v1 (pre.length + 1) (ints pre ++ [.int .i64 (x : Nat)])) (f : Fr (fun k => v.ownBlock = some k) (W.alloc (.cells #[.int .i64 (x : Nat)] 3)) w1) :
    EI w U (pre ++ [x]) (w1.setCell ⟨w.heap.size + 1, 0, none⟩ v1) ∧ KeepsOthers W (w1.setCell ⟨w.heap.size + 1, 0, none⟩ v1) ∧ KpB w.heap.size (w.heap.size + 1 + 1) o (W) (w1.setCell ⟨w.heap.size + 1, 0, none⟩ v1) ∧ w1.heap[w.heap.size + 1]? = some (.cells #[v] 47 (0, 0)) ∧ w1.heap[w.heap.size]? = some (.cells #[.int .i64 (U : Nat)] 3 (0, 0)) := by
  have f1 : Fr (fun k => v.ownBlock = some k) W w1 := Fr.trans ((Fr.refl (fun k => v.ownBlock = some k) W).alloc _) f (fun _ _ h => h)
  have hb1 : w1.heap[w.heap.size + 1]? = some (.cells #[v] 47 (0, 0)) := f1.blk hb (fun e => by have := (ho.lt _ e).1; omega)
  have hu1 : w1.heap[w.heap.size]? = some (.cells #[.int .i64 (U : Nat)] 3 (0, 0)) := f1.blk E.up (fun e => by have := (ho.lt _ e).1; omega)
  have f2 : Fr (fun k => v.ownBlock = some k ∨ k = w.heap.size + 1) W (w1.setCell ⟨w.heap.size + 1, 0, none⟩ v1) := (f1.mono (fun _ _ h => .inl h)).setCell (p := ⟨w.heap.size + 1, 0, none⟩) (fun _ => .inr rfl) _
  have fs : Fr (Is (w.heap.size + 1)) w1 (w1.setCell ⟨w.heap.size + 1, 0, none⟩ v1) := (Fr.refl _ w1).put 0 _
  refine ⟨⟨E.fr.trans f2 ?_, Nat.le_trans E.sz f2.size, ?_, v1, ?_, ?_⟩, keeps_of_fr f2 ?_, ⟨f2.belowN (Nat.le_trans E.fr.size (Nat.le_refl _)) ?_, fun e => f2.blk e ?_⟩, hb1, hu1⟩
  · rintro i hi (h | h)
    · have := (ho.lt _ h).1; omega
    · omega
  · exact fs.blk hu1 (fun e => by have e : w.heap.size = w.heap.size + 1 := e; omega)
  · have := heap_setCell_same w1 (w.heap.size + 1) 0 #[v] 47 v1 hb1
    simpa using this
  · rw [List.length_append, ints_snoc]
    exact h1.fr fs (fun k hk e => by have e : k = w.heap.size + 1 := e; have := (h1.lt _ hk).1; omega)
  · rintro k o (h | h) hk
    · exact own_cells ho k o h hk
    · subst h; rw [hb] at hk; injection hk with hk; subst hk; rfl
  · rintro k hk (h | h)
    · have := (ho.lt _ h).1; omega
    · omega
  · rintro (h | h)
    · have := (ho.lt _ h).1; omega
    · omega

set_option maxRecDepth 100000 in
set_option maxHeartbeats 2000000 in
theorem eachL_in (B : Nat) (v : Value) (L : List Bool) (U : Nat) (w : World) (h : BV w B v L) (hT : Tab w) (hL : L.length ≤ 16384) (hU : 1 ≤ U) (hU2 : U ≤ 1073741824) :
    CallsIn Fence.wide 4 Tryd.prog 38 #[v, .int .i64 (U : Nat)] w (GivesN w ((held L).take U)) := by
  obtain ⟨p, rfl⟩ := h.ptr
  obtain ⟨i0, hi, hz, hsz, hby⟩ := info_parts Tryd.infoInt
  have hq : ∀ (a : Option Addr) (W : World), (binOp .eql 88 (.func (.func 75) #[] #[.pointer a]) .nilFunc).run Tryd.prog W = .ok (.bool false) W := fun _ _ => by kernel_rfl
  have H := hide h
  have HT := hide hT
  clear h hT
  refine callsIn_of_wp_marks Tryd.func38 rfl trivial ?_ rfl
  simp only [Tryd.ntmps38, List.size_toArray, List.length_cons, List.length_nil, Nat.reduceAdd, Nat.reduceSub, Array.replicate_succ, Array.replicate_zero, List.push_toArray, List.append_toArray, List.nil_append, List.cons_append]
  gi_wp2_with (refine ⟨trivial, ?_⟩; gi_at_call 61; refine (callsIn_wide.2 (eachF_any p _)).mono ?_; rintro e w' ⟨rfl, rfl⟩)
  obtain ⟨W0, hW0⟩ : ∃ W0, W0 = ((w.alloc (.cells #[.int .i64 (U : Nat)] 3)).alloc (.cells #[.slice none 0 0] 47)).alloc (.cells #[.pointer p] 26) := ⟨_, rfl⟩
  rw [← hW0]
  have hF0 : Fr No w W0 := by rw [hW0]; exact (((Fr.refl No w).alloc _).alloc _).alloc _
  have hs0 : W0.heap.size = w.heap.size + 3 := by rw [hW0]; simp
  have hu0 : W0.heap[w.heap.size]? = some (.cells #[.int .i64 (U : Nat)] 3 (0, 0)) := by
    rw [hW0]
    exact (((Fr.refl No _).alloc _).alloc _).blk (box_heap w _ _) (fun h => h)
  have hb0 : W0.heap[w.heap.size + 1]? = some (.cells #[.slice none 0 0] 47 (0, 0)) := by
    rw [hW0]
    have := box_heap (w.alloc (.cells #[.int .i64 (U : Nat)] 3)) (.slice none 0 0) 47
    rw [show (w.alloc (.cells #[.int .i64 (U : Nat)] 3)).heap.size = w.heap.size + 1 by simp] at this
    exact ((Fr.refl No _).alloc _).blk this (fun h => h)
  have hp0 : W0.heap[w.heap.size + 1 + 1]? = some (.cells #[.pointer p] 26 (0, 0)) := by
    rw [hW0]
    have := box_heap ((w.alloc (.cells #[.int .i64 (U : Nat)] 3)).alloc (.cells #[.slice none 0 0] 47)) (.pointer p) 26
    simpa using this
  have hE0 : EI w U [] W0 := ⟨hF0, by omega, hu0, _, hb0, Own.nil _ _ _ _⟩
  clear hW0
  refine wpIn_rangeFunc_ownF rfl (by omega) (gf := 75) (lb := #[.pointer (some ⟨w.heap.size + 1 + 1, 0, none⟩)]) rfl trivial (enters_of Tryd.func75 (by kernel_rfl) rfl)
    (each_stops 3 (by omega) (w.heap.size + 1 + 1) B (.pointer p) L w W0 26 hL H.out HT.out hF0 hp0) KpB.t (KpB.b (by omega) (by omega)) (Below.refl _ _) (fun _ => rfl)
    (fun pre W => EI w U pre W ∧ pre.length < U)
    (fun c pre W => c = .exit 0 ∧ EI w U pre W ∧ pre.length = U)
    (EI.from w U _ (by omega)) (fun c => EI.from2 w U _ (by omega) _ c) ⟨hE0, by simp; omega⟩
    (fun x => { tmps := #[.pointer p, .int .i64 (U : Nat), undef, .pointer (some ⟨w.heap.size, 0, none⟩), .slice none 0 0, .pointer (some ⟨w.heap.size + 1, 0, none⟩), .func (.func 75) #[] #[.pointer (some ⟨w.heap.size + 1 + 1, 0, none⟩)], .int .i64 (x : Nat), .pointer p, .func (.func 75) #[] #[.pointer (some ⟨w.heap.size + 1 + 1, 0, none⟩)], .func (.func 75) #[] #[.pointer (some ⟨w.heap.size + 1 + 1, 0, none⟩)], .bool false, undef, .func (.func 75) #[] #[.pointer (some ⟨w.heap.size + 1 + 1, 0, none⟩)], .int .i64 (x : Nat), undef, undef, undef, undef, undef, undef, undef, undef, undef], defers := [] }) ?assign ?body ?done ?stop
  case assign =>
    intro l x W K hK
    gi_wp2
    exact hK
  case body =>
    rintro l pre x W ⟨E, hlt⟩ _
    obtain ⟨v, hb, ho⟩ := E.own
    have hsz1 : w.heap.size + 3 ≤ W.heap.size := E.sz
    obtain ⟨A, c, rfl, q1, q2, _⟩ := ho.form
    have HE := hide E
    have HO := hide ho
    have HBx := hide hb
    have c5 : W.cell? ⟨w.heap.size + 1, 0, none⟩ = some (.slice A pre.length c) := cell_of_row _ _ 0 _ _ _ hb
    have f5 : W.frozen? ⟨w.heap.size + 1, 0, none⟩ = false := frozen_of_row _ _ _ _ _ hb
    unfold maxLen at q2
    clear E ho hb H HT hF0 hu0 hb0 hp0 hE0 hq
    obtain ⟨k, hk⟩ : ∃ k, k = pre.length := ⟨_, rfl⟩
    rw [← hk] at hlt q1 c5
    have b1 : (k + 1) * 8 ≤ 140737488355328 := by omega
    have b2 : k + 1 ≤ maxLen := by unfold maxLen; omega
    have HK := hide hk
    clear hk
    have hsz2 := hide hsz1
    have HOk : Hid (Own W (w.heap.size + 3) 3 1 (.slice A k c) k (ints pre)) := hide (by rw [HK.out]; exact HO.out)
    gi_wp2_with (gi_at_builtin; refine wpListIn_append_gen _ rfl (.tmp 15) (.tmp 17) 47 47 rfl (w.heap.size + 3) 3 i0 (.int .i64 0) 1 8 Tryd.underlying47 hi hz hsz hby rfl (.slice A k c) k (ints pre) rfl (HOk.out.fr0 ((Fr.refl No W).alloc (.cells #[.int .i64 (x : Nat)] 3))) _ 1 [.int .i64 (x : Nat)] rfl (Src.one (P := Tryd.prog) W (e := 3) Tryd.underlying47 _ rfl) b1 b2 (by have := hsz2.out; simp; omega) ?_; intro v1 w1 hown hfr hat; obtain ⟨A1, c1, rfl, r1, r2, _⟩ := hown.form; unfold maxLen at r2; rw [HK.out] at hown hfr; have ES := hide (HE.out.step HBx.out HO.out hown hfr (o := .cells #[.pointer p] 26)); rw [← HK.out] at ES; have cb1 : w1.cell? ⟨w.heap.size + 1, 0, none⟩ = some (.slice A k c) := cell_of_row _ _ 0 _ _ _ ES.out.2.2.2.1; have fb1 : w1.frozen? ⟨w.heap.size + 1, 0, none⟩ = false := frozen_of_row _ _ _ _ _ ES.out.2.2.2.1; have cu1 : w1.cell? ⟨w.heap.size, 0, none⟩ = some (.int .i64 (U : Nat)) := cell_of_row _ _ 0 _ _ _ ES.out.2.2.2.2; clear hown hfr hat)
    all_goals
      have hl : (pre ++ [x]).length = k + 1 := by rw [List.length_append, HK.out]; rfl
    · have hb' : ((k : Int) + 1 == (U : Int)) = true := by assumption
      have : (k : Int) + 1 = U := eq_of_beq hb'
      exact ⟨ES.out.2.1, rfl, ES.out.1, by omega⟩
    · have hb' : ((k : Int) + 1 == (U : Int)) = false := by assumption
      have : (k : Int) + 1 ≠ U := fun e => by rw [e] at hb'; simp at hb'
      exact ⟨ES.out.2.1, ES.out.2.2.1, ES.out.1, by omega⟩
  case done =>
    rintro D ys W hD rfl ⟨E, hl⟩ hK
    obtain ⟨v, hb, ho⟩ := E.own
    have c5 : W.cell? ⟨w.heap.size + 1, 0, none⟩ = some v := cell_of_row _ _ 0 _ _ _ hb
    have HE := hide E
    have HO := hide ho
    clear E ho hb H HT hF0 hu0 hb0 hp0 hE0 hq
    gi_wp2
    refine ⟨by simp, .inl ⟨_, _, rfl, run_takeDeferred hK, ?_⟩⟩
    refine ⟨_, results_tmp rfl _ _ _, ?_⟩
    have f1 : Fr (fun k => k = D) W (W.putObj D (.deferred none)) := (Fr.of_grown (grownBy_putObj' W D (.deferred none))).mono (fun i _ e => (Option.some.inj e).symm)
    refine ⟨_, rfl, ?_, HE.out.fr.trans f1 (fun i hi e => by have e : i = D := e; omega)⟩
    rw [List.take_of_length_le (by omega)]
    exact (HO.out.lower (by omega)).fr f1 (fun k hk e => by
      have e : k = D := e
      subst e
      obtain ⟨_, A', c', rfl, _, _, hA⟩ := HO.out
      rcases hA with ⟨rfl, _⟩ | ⟨g', cur, rfl, _, hh, _⟩
      · cases hk
      · have e : g' = k := Option.some.inj hk
        subst e
        rw [hK] at hh
        cases hh)
  case stop =>
    rintro D c pre W hD hpre ⟨rfl, E, hl⟩ hK
    obtain ⟨v, hb, ho⟩ := E.own
    have c5 : W.cell? ⟨w.heap.size + 1, 0, none⟩ = some v := cell_of_row _ _ 0 _ _ _ hb
    have HE := hide E
    have HO := hide ho
    clear E ho hb H HT hF0 hu0 hb0 hp0 hE0 hq
    gi_wp2
    refine ⟨by simp, .inl ⟨_, _, rfl, run_takeDeferred hK, ?_⟩⟩
    refine ⟨_, results_tmp rfl _ _ _, ?_⟩
    have f1 : Fr (fun k => k = D) W (W.putObj D (.deferred none)) := (Fr.of_grown (grownBy_putObj' W D (.deferred none))).mono (fun i _ e => (Option.some.inj e).symm)
    refine ⟨_, rfl, ?_, HE.out.fr.trans f1 (fun i hi e => by have e : i = D := e; omega)⟩
    rw [← hl, ← List.prefix_iff_eq_take.1 hpre]
    exact (HO.out.lower (by omega)).fr f1 (fun k hk e => by
      have e : k = D := e
      subst e
      obtain ⟨_, A', c', rfl, _, _, hA⟩ := HO.out
      rcases hA with ⟨rfl, _⟩ | ⟨g', cur, rfl, _, hh, _⟩
      · cases hk
      · have e : g' = k := Option.some.inj hk
        subst e
        rw [hK] at hh
        cases hh)
theorem eachL_any (B : Nat) (v : Value) (L : List Bool) (U : Nat) (w : World) (h : BV w B v L) (hT : Tab w) (hL : L.length ≤ 16384) (hU : 1 ≤ U) (hU2 : U ≤ 1073741824) :
    Calls Tryd.prog 38 #[v, .int .i64 (U : Nat)] w (GivesN w ((held L).take U)) := callsIn_wide.1 (eachL_in B v L U w h hT hL hU hU2)
end Go.Proofs.YtapfbjaopbcgjaaDoor
