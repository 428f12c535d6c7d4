/- The sequence of a set's numbers: Each. Condition: the library's table lies as laid. -/
import Derived.Test.YtapfbjaopbcgjaaDoorAfter
import Derived.Test.YtapfbjaopbcgjaaDoorMemIn
namespace Go.Proofs.YtapfbjaopbcgjaaDoor
set_option linter.unusedVariables false
set_option linter.unusedSimpArgs false
open Go.RowKit Go.Shelf
attribute [local go_sem] Oper.semAt_some

/-- the numbers held below i. -/
def uptoN (l : List Bool) (i : Nat) : List Nat := (List.range i).filter (hasN l)
def held (l : List Bool) : List Nat := uptoN l l.length
theorem upto_skip {l : List Bool} {i k : Nat} (hik : i ≤ k) (h : ∀ j, i ≤ j → j < k → hasN l j = false) : uptoN l k = uptoN l i := by
  obtain ⟨d, rfl⟩ : ∃ d, k = i + d := ⟨k - i, by omega⟩
  unfold uptoN
  rw [List.range_add, List.filter_append]
  have : ((List.range d).map (i + ·)).filter (hasN l) = [] := by
    rw [List.filter_eq_nil_iff]
    intro a ha
    obtain ⟨q, hq, rfl⟩ := List.mem_map.1 ha
    rw [List.mem_range] at hq
    simp [h (i + q) (by omega) (by omega)]
  rw [this, List.append_nil]
theorem upto_hit {l : List Bool} {k : Nat} (h : hasN l k = true) : uptoN l (k + 1) = uptoN l k ++ [k] := by
  unfold uptoN
  rw [List.range_succ, List.filter_append]
  simp [h]
theorem upto_len (l : List Bool) (k : Nat) : (uptoN l k).length ≤ k := by
  have := List.length_filter_le (hasN l) (List.range k)
  rw [List.length_range] at this
  exact this
theorem upto_prefix {l : List Bool} {k : Nat} (hk : k ≤ l.length) : uptoN l k <+: held l := by
  unfold held
  obtain ⟨d, hd⟩ : ∃ d, l.length = k + d := ⟨l.length - k, by omega⟩
  rw [hd]
  unfold uptoN
  rw [List.range_add, List.filter_append]
  exact List.prefix_append _ _
/-- a set's value lies on. -/
theorem BV.below {W W' : World} {B n₀ : Nat} {v : Value} {l : List Bool} (h : BV W B v l) (hn : W.heap.size ≤ n₀) (f : Below n₀ W W') : BV W' B v l := by
  rcases h with h | ⟨g, gw, rfl, h⟩
  · exact .inl h
  · have hl := h.lt
    exact .inr ⟨g, gw, rfl, h.fr (S := fun k => ¬ k < n₀) ⟨f.os, f.tape, f.output, f.size, fun k hk hS => f.block k (by omega)⟩ (by omega) (by omega)⟩

def EachPost (J Jx : List Nat → World → Prop) (L : List Bool) (e : Ending) (W' : World) : Prop := (∃ v, e = .returned v) ∧ (J (held L) W' ∨ (∃ pre, pre <+: held L ∧ Jx pre W'))
def okN : Value → Nat
  | .bool true => 1
  | _ => 0
set_option maxRecDepth 100000 in
set_option maxHeartbeats 1000000 in
theorem each1_in (n : Nat) (hn : 1 ≤ n) (l Bn B : Nat) (Kp : World → World → Prop) (hKr : ∀ W, Kp W W) (hKt : ∀ {X Y Z : World}, Kp X Y → Kp Y Z → Kp X Z) (v : Value) (L : List Bool) (J Jx : List Nat → World → Prop)
    (hY : ∀ pre x W, J pre W → pre.length < L.length → x < L.length → YieldAt Fence.wide (n - 1) Tryd.prog l #[.int .i64 (x : Nat)] W fun e W' =>
      (e = .returned (.bool true) ∧ J (pre ++ [x]) W' ∧ Kp W W') ∨ (e = .returned (.bool false) ∧ Jx (pre ++ [x]) W'))
    (W : World) (hBn : ∀ W', Kp W W' → W'.cell? ⟨Bn, 0, none⟩ = some v ∧ BV W' B v L ∧ Tab W') (hlen : L.length ≤ 16384) (h0 : J [] W) :
    CallsIn Fence.wide n Tryd.prog 75 #[.func (.yield l) #[] #[], .pointer (some ⟨Bn, 0, none⟩)] W (EachPost J Jx L) := by
  obtain ⟨hc, hbv, htab⟩ := hBn W (hKr _)
  have HB := hide hBn
  have HY := hide hY
  have HJ := hide h0
  clear hBn hY h0
  suffices HL : ∀ (i0 : Nat) (ok0 : Bool), (ok0 = true ∧ i0 < L.length ∧ hasN L i0 = true ∧ uptoN L i0 = []) ∨ (ok0 = false ∧ i0 = 0 ∧ held L = []) →
      Calls Tryd.prog 76 #[v, .int .i64 0] W (Ret (.tuple #[.int .i64 (i0 : Nat), .bool ok0]) W) →
      CallsIn Fence.wide n Tryd.prog 75 #[.func (.yield l) #[] #[], .pointer (some ⟨Bn, 0, none⟩)] W (EachPost J Jx L) by
    rcases next_cases L 0 with ⟨k, hk1, hk2, hk3, hk4⟩ | hno
    · exact HL k true (.inl ⟨rfl, hk2, hk3, by rw [upto_skip (Nat.zero_le k) hk4]; rfl⟩) (after_yes B v L 0 k W hbv htab hk1 hk2 hk3 hk4)
    · exact HL 0 false (.inr ⟨rfl, rfl, by unfold held; rw [upto_skip (Nat.zero_le _) (fun j h1 h2 => hno j h1)]; rfl⟩) (after_no B v L 0 W hbv hno (by omega))
  intro i0 ok0 h0 hA
  have HA := hide hA
  have H0 := hide h0
  clear hA h0 hbv htab
  refine callsIn_of_wp Tryd.func75 rfl trivial ?_ rfl
  simp only [Tryd.ntmps75, List.size_toArray, List.length_cons, List.length_nil, Nat.reduceAdd, Nat.reduceSub, Array.replicate_succ, Array.replicate_zero, List.push_toArray, List.append_toArray, List.nil_append, List.cons_append]
  gi_wp2_with (refine ⟨trivial, ?_⟩; gi_at_call 76; refine (callsIn_wide.2 HA.out).mono ?_; rintro e w' ⟨rfl, rfl⟩)
  gi_loopw [3, 4] (fun i ok wr => ∃ (pre : List Nat) (j : Nat) (b : Bool), i = .int .i64 (j : Nat) ∧ ok = .bool b ∧ Hid (J pre wr) ∧ Hid (Kp W wr) ∧ Hid ((b = true ∧ j < L.length ∧ hasN L j = true ∧ pre = uptoN L j) ∨ (b = false ∧ pre = held L)))
    (fun i ok wr => okN ok * (L.length + 1 - (intOf i).toNat))
  case atStart =>
    refine ⟨[], i0, ok0, rfl, rfl, HJ, hide (hKr _), hide ?_⟩
    rcases H0.out with ⟨h1, h2, h3, h4⟩ | ⟨h1, h2, h3⟩
    · exact .inl ⟨h1, h2, h3, h4.symm⟩
    · exact .inr ⟨h1, h3.symm⟩
  case round =>
    obtain ⟨pre, j, b, rfl, rfl, HJ1, HBl, HC⟩ := hrel
    rcases HC.out with ⟨rfl, hj1, hj2, rfl⟩ | ⟨rfl, rfl⟩
    · have hpl := upto_len L j
      obtain ⟨fn, tmps, assign, body, hy, hR⟩ := HY.out (uptoN L j) j wr HJ1.out (by omega) hj1
      clear HC hpl
      have hjm : j ≤ 16384 := by omega
      have H2 := hide hj2
      clear hj2
      gi_wp2
      refine hR.mono ?_
      rintro e W3 (⟨rfl, hJ3, hk3⟩ | ⟨rfl, hJx3⟩)
      · have HB3 := hide (hKt HBl.out hk3)
        obtain ⟨hc3, hbv3, htab3⟩ := HB.out W3 HB3.out
        have HJ3 : Hid (J (uptoN L (j + 1)) W3) := hide (by rw [upto_hit H2.out]; exact hJ3)
        have ej : ((j + 1 : Nat) : Int) = (j : Int) + 1 := by omega
        rcases next_cases L (j + 1) with ⟨k, hk1, hk2, hkh, hk4⟩ | hno
        · have HA3 := hide (after_yes B v L (j + 1) k W3 hbv3 htab3 hk1 hk2 hkh hk4)
          have HU := hide (upto_skip hk1 hk4)
          rw [ej] at HA3
          have HK := hide hkh
          clear hbv3 htab3 hk4 hkh hJ3 hk3 hy hR ej hc HB HBl HJ1 H2
          gi_wp2_with (refine ⟨trivial, ?_⟩; gi_at_call 76; refine (callsIn_wide.2 HA3.out).mono ?_; rintro e w' ⟨rfl, rfl⟩)
          go_roundw
          case rel => exact ⟨_, k, true, rfl, rfl, HJ3, HB3, hide (.inl ⟨rfl, hk2, HK.out, HU.out.symm⟩)⟩
          case measure =>
            have h1 : okN (.bool true) = 1 := rfl
            simp only [h1, intOf, Int.toNat_natCast]
            omega
        · have HA3 := hide (after_no B v L (j + 1) W3 hbv3 hno (by omega))
          have HU := hide (upto_skip (l := L) (i := j + 1) (k := L.length) (by omega) (fun q h1 h2 => hno q h1))
          rw [ej] at HA3
          clear hbv3 htab3 hno hJ3 hk3 hy hR ej hc HB HBl HJ1 H2
          gi_wp2_with (refine ⟨trivial, ?_⟩; gi_at_call 76; refine (callsIn_wide.2 HA3.out).mono ?_; rintro e w' ⟨rfl, rfl⟩)
          go_roundw
          case rel => exact ⟨_, 0, false, rfl, rfl, HJ3, HB3, hide (.inr ⟨rfl, HU.out.symm⟩)⟩
          case measure =>
            have h1 : okN (.bool true) = 1 := rfl
            have h2 : okN (.bool false) = 0 := rfl
            simp only [h1, h2, intOf, Int.toNat_natCast]
            omega
      · have HX := hide hJx3
        have HP := hide (upto_hit H2.out ▸ upto_prefix (l := L) (k := j + 1) (by omega) : uptoN L j ++ [j] <+: held L)
        clear hy hR hJx3
        gi_wp2
        refine bodyPost_ret (results_none rfl _ _ _) rfl ?_
        exact ⟨⟨_, rfl⟩, .inr ⟨_, HP.out, HX.out⟩⟩
    · gi_wp2
      go_end0
      exact ⟨⟨_, rfl⟩, .inl HJ1.out⟩

/-- Each hands out a sequence. -/
theorem BV.ptr {w : World} {B : Nat} {v : Value} {l : List Bool} (h : BV w B v l) : ∃ p, v = .pointer p := by
  rcases h with ⟨rfl, _⟩ | ⟨g, gw, rfl, _⟩
  · exact ⟨_, rfl⟩
  · exact ⟨_, rfl⟩
set_option maxRecDepth 100000 in
theorem eachF_any (p : Option Addr) (w : World) : Calls Tryd.prog 61 #[.pointer p] w fun e w' => e = .returned (.func (.func 75) #[] #[.pointer (some ⟨w.heap.size, 0, none⟩)]) ∧ w' = w.alloc (.cells #[.pointer p] 26) := by
  go_enter Tryd.func61, Tryd.ntmps61
  go_wp2
  go_ret
  exact ⟨rfl, rfl⟩
/-- what a round keeps: what lay when the call began, and the box. -/
def KpB (n₀ Bn : Nat) (o : Obj) (W W' : World) : Prop := Below n₀ W W' ∧ (W.heap[Bn]? = some o → W'.heap[Bn]? = some o)
theorem KpB.t {n₀ Bn : Nat} {o : Obj} {A B C : World} (h : KpB n₀ Bn o A B) (k : KpB n₀ Bn o B C) : KpB n₀ Bn o A C := ⟨h.1.trans k.1, fun e => k.2 (h.2 e)⟩
theorem KpB.b {n₀ Bn : Nat} {o : Obj} {w : World} (hn : n₀ ≤ w.heap.size) (hB : Bn < w.heap.size) (W : World) (l : Nat) (o1 o' : Obj) (hl : w.heap.size ≤ l) (h : W.heap[l]? = some o1) (h1 : o1.isCells = false) (h2 : o1.isWalk = false) : KpB n₀ Bn o W (W.putObj l o') :=
  ⟨belowK_b hn W l o1 o' hl h h1 h2, fun e => by
    exact (Fr.of_grown (grownBy_putObj' W l o')).blk e (fun e => by have e : l = Bn := Option.some.inj e; omega)⟩
theorem each_stops (n : Nat) (hn : 1 ≤ n) (Bn B : Nat) (v : Value) (L : List Bool) (w W0 : World) (t : TypeId) (hlen : L.length ≤ 16384) (h : BV w B v L) (hT : Tab w) (hf : Fr No w W0) (hb : W0.heap[Bn]? = some (.cells #[v] t (0, 0))) :
    SeqStopsK Fence.wide n Tryd.prog 75 #[.pointer (some ⟨Bn, 0, none⟩)] (fun x : Nat => #[Value.int .i64 (x : Nat)]) (KpB w.heap.size Bn (.cells #[v] t (0, 0))) (fun ys => ys = held L) (fun pre => pre <+: held L) L.length W0 := fun l J Jx W hW _ _ hY h0 =>
  (each1_in n hn l Bn B (KpB w.heap.size Bn (.cells #[v] t (0, 0))) (fun W => ⟨Below.refl _ _, fun e => e⟩) KpB.t v L J Jx (fun pre x W1 h1 h2 _ => hY pre x W1 h1 h2) W (fun W' hk => by
    have hbl : Below w.heap.size w W' := hf.below.trans ((hW.mono hf.size).trans hk.1)
    have hb1 : W.heap[Bn]? = some (.cells #[v] t (0, 0)) := (hW.block Bn (Array.getElem?_eq_some_iff.1 hb).1).trans hb
    exact ⟨cell_of_row _ _ _ _ _ _ (hk.2 hb1), h.below (Nat.le_refl _) hbl, hT.fr (Fr.of_below hbl) (fun h => h)⟩) hlen h0).mono fun e W' ⟨h1, h2⟩ => ⟨h1, h2.elim (fun h => .inl ⟨_, rfl, h⟩) .inr⟩

/-- the same, where the body is told that a number is one of the set's size. -/
abbrev Nm (L : List Bool) := { x : Nat // x < L.length }
def val' {L : List Bool} (xs : List (Nm L)) : List Nat := xs.map (·.1)
theorem val_snoc {L : List Bool} (xs : List (Nm L)) (x : Nm L) : val' (xs ++ [x]) = val' xs ++ [x.1] := by simp [val']
theorem each_stopsS (n : Nat) (hn : 1 ≤ n) (Bn B : Nat) (v : Value) (L : List Bool) (w W0 : World) (t : TypeId) (hlen : L.length ≤ 16384) (h : BV w B v L) (hT : Tab w) (hf : Fr No w W0) (hb : W0.heap[Bn]? = some (.cells #[v] t (0, 0))) :
    SeqStopsK Fence.wide n Tryd.prog 75 #[.pointer (some ⟨Bn, 0, none⟩)] (fun x : Nm L => #[Value.int .i64 (x.1 : Nat)]) (KpB w.heap.size Bn (.cells #[v] t (0, 0))) (fun ys => val' ys = held L) (fun pre => val' pre <+: held L) L.length W0 := fun l J Jx W hW _ _ hY h0 =>
  (each1_in n hn l Bn B (KpB w.heap.size Bn (.cells #[v] t (0, 0))) (fun W => ⟨Below.refl _ _, fun e => e⟩) KpB.t v L (fun pre W => ∃ q : List (Nm L), val' q = pre ∧ J q W) (fun pre W => ∃ q : List (Nm L), val' q = pre ∧ Jx q W)
    (fun pre x W1 h1 h2 hx => by
      obtain ⟨q, rfl, hj⟩ := h1
      refine YieldAt.mono (hY q ⟨x, hx⟩ W1 hj (by simpa [val'] using h2)) ?_
      rintro e W' (⟨h1, h2, h3⟩ | ⟨h1, h2⟩)
      · exact .inl ⟨h1, ⟨_, val_snoc q ⟨x, hx⟩, h2⟩, h3⟩
      · exact .inr ⟨h1, _, val_snoc q ⟨x, hx⟩, h2⟩) W (fun W' hk => by
    have hbl : Below w.heap.size w W' := hf.below.trans ((hW.mono hf.size).trans hk.1)
    have hb1 : W.heap[Bn]? = some (.cells #[v] t (0, 0)) := (hW.block Bn (Array.getElem?_eq_some_iff.1 hb).1).trans hb
    exact ⟨cell_of_row _ _ _ _ _ _ (hk.2 hb1), h.below (Nat.le_refl _) hbl, hT.fr (Fr.of_below hbl) (fun h => h)⟩) hlen ⟨[], rfl, h0⟩).mono fun e W' ⟨h1, h2⟩ => ⟨h1, h2.elim (fun ⟨q, hq, h⟩ => .inl ⟨q, hq, h⟩) (fun ⟨pre, hp, q, hq, h⟩ => .inr ⟨q, (hq ▸ hp : val' q <+: held L), h⟩)⟩
end Go.Proofs.YtapfbjaopbcgjaaDoor
