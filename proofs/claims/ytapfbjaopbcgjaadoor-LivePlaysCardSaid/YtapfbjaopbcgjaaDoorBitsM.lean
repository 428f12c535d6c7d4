/- Sets of numbers in memory; New, Len, in, Has. -/
import Derived.Test.YtapfbjaopbcgjaaDoorWordsP
import Derived.Test.YtapfbjaopbcgjaaDoorVals
namespace Go.Proofs.YtapfbjaopbcgjaaDoor
set_option linter.unusedVariables false
set_option linter.unusedSimpArgs false
open Go.RowKit

/-- a set in memory: block g is the struct, block gw its words. -/
structure BT (w : World) (base g gw : Nat) (l : List Bool) : Prop where
  blk : w.heap[g]? = some (.cells #[.slice (some ⟨gw, 0, none⟩) (wcount l.length) (wcount l.length), .int .i64 (l.length : Nat)] 68 (0, 0))
  low : base ≤ g
  most : l.length ≤ 16384
  own : Own w base 23 1 (.slice (some ⟨gw, 0, none⟩) (wcount l.length) (wcount l.length)) (wcount l.length) (wds l)
section
variable {S : Nat → Prop} {w w' : World} {base g gw : Nat} {l : List Bool}
theorem BT.fr (h : BT w base g gw l) (f : Fr S w w') (h1 : ¬ S g) (h2 : ¬ S gw) : BT w' base g gw l :=
  ⟨f.blk h.blk h1, h.low, h.most, h.own.fr f (fun k hk => by have e : gw = k := Option.some.inj hk; subst e; exact h2)⟩
theorem BT.fr0 (h : BT w base g gw l) (f : Fr No w w') : BT w' base g gw l := h.fr f (fun h => h) (fun h => h)
theorem BT.lower {b2 : Nat} (h : BT w base g gw l) (hb : b2 ≤ base) : BT w b2 g gw l := ⟨h.blk, Nat.le_trans hb h.low, h.most, h.own.lower hb⟩
theorem BT.lt (h : BT w base g gw l) : base ≤ g ∧ g < w.heap.size ∧ base ≤ gw ∧ gw < w.heap.size := by
  have h1 := h.own.lt gw rfl
  exact ⟨h.low, (Array.getElem?_eq_some_iff.1 h.blk).1, h1.1, h1.2⟩
theorem BT.ne (h : BT w base g gw l) : g ≠ gw := fun e => by
  subst e
  exact h.own.ne_blk rfl h.blk (by decide)
theorem BT.cell0 (h : BT w base g gw l) : w.cell? ⟨g, 0, none⟩ = some (.slice (some ⟨gw, 0, none⟩) (wcount l.length) (wcount l.length)) := by
  rw [cell_of_row _ _ _ _ _ _ h.blk]; rfl
theorem BT.cell1 (h : BT w base g gw l) : w.cell? ⟨g, 1, none⟩ = some (.int .i64 (l.length : Nat)) := by
  rw [cell_of_row _ _ _ _ _ _ h.blk]; rfl
theorem BT.word (h : BT w base g gw l) {i : Nat} (hi : i < wcount l.length) : w.cell? ⟨gw, i, none⟩ = some (.int .u64 (wd l i : Nat)) := by
  obtain ⟨ad, e, _, hc⟩ := h.own.rd i _ (wds_at l hi)
  injection e with e
  subst e
  simpa [Addr.add_lit] using hc
end
/-- a set, or none: its value. -/
def BV (w : World) (base : Nat) (v : Value) (l : List Bool) : Prop := (v = .pointer none ∧ l = []) ∨ ∃ g gw, v = .pointer (some ⟨g, 0, none⟩) ∧ BT w base g gw l
def GivesBT (w : World) (l : List Bool) (en : Ending) (w' : World) : Prop := ∃ g gw, en = .returned (.pointer (some ⟨g, 0, none⟩)) ∧ BT w' w.heap.size g gw l ∧ Fr No w w'
def clampN (n : Int) : Nat := if n < 0 then 0 else if 16384 < n then 16384 else n.toNat
theorem clampN_le (n : Int) : clampN n ≤ 16384 := by unfold clampN; split <;> (try split) <;> omega

theorem Tryd.infoU64 : (Tryd.prog.info? 23).map (fun i => (i.zero, i.size, i.bytes)) = some (some (.int .u64 0), 1, 8) := by kernel_rfl
theorem make_words (k : Nat) (hk : k ≤ 16384) (W : World) : (Instr.makeSlice 22 (.int .i64 (((k : Nat) + 63 : Int) / 64)) (.int .i64 (((k : Nat) + 63 : Int) / 64))).run Tryd.prog W = .ok (.slice (some ⟨W.heap.size, 0, none⟩) (wcount k) (wcount k)) (W.alloc (.cells (madeCells #[.int .u64 0] (wcount k)) 23)) := by
  obtain ⟨i0, hi, hz, hsz, hby⟩ := info_parts Tryd.infoU64
  have e : (((k : Nat) + 63 : Int) / 64) = ((wcount k : Nat) : Int) := by unfold wcount; omega
  have hw : wcount k ≤ 256 := by unfold wcount; omega
  rw [e]
  have h := run_make (P := Tryd.prog) W 22 23 i0 (.int .u64 0) Tryd.underlying22 hi hz .i64 .i64 (wcount k : Int) (wcount k : Int) (by omega) (by omega) (by rw [hby]; omega) (by omega)
  rw [Int.toNat_natCast, hsz, Nat.mul_one] at h
  exact h
theorem new_bt (w : World) (k : Nat) (hk : k ≤ 16384) (z : Array Value) (hz : z = madeCells #[.int .u64 0] (wcount k)) : BT ((w.alloc (.cells z 23)).alloc (.cells #[.slice (some ⟨w.heap.size, 0, none⟩) (wcount k) (wcount k), .int .i64 (k : Nat)] 68)) w.heap.size (w.heap.size + 1) w.heap.size (List.replicate k false) := by
  subst hz
  have hl : (List.replicate k false).length = k := List.length_replicate
  refine ⟨?_, by omega, by rw [hl]; exact hk, ?_⟩
  · rw [hl]
    have := heap_alloc_new (w.alloc (.cells (madeCells #[.int .u64 0] (wcount k)) 23)) (.cells #[.slice (some ⟨w.heap.size, 0, none⟩) (wcount k) (wcount k), .int .i64 (k : Nat)] 68)
    simpa using this
  · rw [hl, wds_none]
    exact (made_own w (wcount k) 23 (.int .u64 0) _ rfl (by unfold wcount maxLen; omega)).fr0 ((Fr.refl No _).alloc _)

theorem make_words0 (W : World) : ∃ z, z = madeCells #[Value.int .u64 0] (wcount 0) ∧ (Instr.makeSlice 22 (.int .i64 0) (.int .i64 0)).run Tryd.prog W = .ok (.slice (some ⟨W.heap.size, 0, none⟩) 0 0) (W.alloc (.cells z 23)) :=
  ⟨_, rfl, make_words 0 (by omega) W⟩
theorem make_words256 (W : World) : ∃ z, z = madeCells #[Value.int .u64 0] (wcount 16384) ∧ (Instr.makeSlice 22 (.int .i64 256) (.int .i64 256)).run Tryd.prog W = .ok (.slice (some ⟨W.heap.size, 0, none⟩) 256 256) (W.alloc (.cells z 23)) :=
  ⟨_, rfl, make_words 16384 (by omega) W⟩

set_option maxRecDepth 100000 in
set_option maxHeartbeats 400000 in
theorem new_any (n : Int) (w : World) (h1 : -9223372036854775808 ≤ n) (h2 : n ≤ 9223372036854775807) : Calls Tryd.prog 17 #[.int .i64 n] w (GivesBT w (List.replicate (clampN n) false)) := by
  unfold clampN
  by_cases hneg : n ≤ 0
  · rw [show (if n < 0 then 0 else if 16384 < n then 16384 else n.toNat) = 0 by split <;> (try split) <;> omega]
    obtain ⟨z, hz, hm⟩ := make_words0 w
    have HB := hide (new_bt w 0 (by omega) z hz)
    clear hz
    go_enter Tryd.func17, Tryd.ntmps17
    go_wp2
    go_ret
    exact ⟨_, _, rfl, HB.out, ((Fr.refl No w).alloc _).alloc _⟩
  · by_cases hbig : 16384 < n
    · rw [if_neg (by omega), if_pos hbig]
      obtain ⟨z, hz, hm⟩ := make_words256 w
      have HB := hide (new_bt w 16384 (by omega) z hz)
      clear hz
      generalize List.replicate 16384 false = L at HB ⊢
      go_enter Tryd.func17, Tryd.ntmps17
      go_wp2
      go_ret
      exact ⟨_, _, rfl, HB.out, ((Fr.refl No w).alloc _).alloc _⟩
    · rw [if_neg (by omega), if_neg hbig]
      obtain ⟨k, rfl⟩ : ∃ k : Nat, n = k := ⟨n.toNat, by omega⟩
      rw [Int.toNat_natCast]
      have hk : k ≤ 16384 := by omega
      have hk0 : 0 < k := by omega
      have hm := make_words k hk w
      have HB := hide (new_bt w k hk _ rfl)
      generalize madeCells #[Value.int .u64 0] (wcount k) = z at hm HB
      go_enter Tryd.func17, Tryd.ntmps17
      go_wp2
      go_ret
      exact ⟨_, _, rfl, HB.out, ((Fr.refl No w).alloc _).alloc _⟩

set_option maxRecDepth 100000 in
set_option maxHeartbeats 400000 in
theorem len_any (B : Nat) (v : Value) (l : List Bool) (w : World) (h : BV w B v l) : Calls Tryd.prog 16 #[v] w (Ret (.int .i64 (l.length : Nat)) w) := by
  rcases h with ⟨rfl, rfl⟩ | ⟨g, gw, rfl, h⟩
  · go_enter Tryd.func16, Tryd.ntmps16
    go_wp2
    go_ret
    exact ⟨rfl, rfl⟩
  · have hc := h.cell1
    generalize l.length = n at hc ⊢
    clear h
    go_enter Tryd.func16, Tryd.ntmps16
    go_wp2
    go_ret
    exact ⟨rfl, rfl⟩

def inB (n : Nat) (i : Int) : Bool := decide (0 ≤ i ∧ i < (n : Int))
set_option maxRecDepth 100000 in
set_option maxHeartbeats 400000 in
theorem in_any (B : Nat) (v : Value) (l : List Bool) (i : Int) (w : World) (h : BV w B v l) : Calls Tryd.prog 44 #[v, .int .i64 i] w (Ret (.bool (inB l.length i)) w) := by
  rcases h with ⟨rfl, rfl⟩ | ⟨g, gw, rfl, h⟩
  · have hf : inB ([] : List Bool).length i = false := decide_eq_false (by simp)
    rw [hf]
    clear hf
    go_enter Tryd.func44, Tryd.ntmps44
    go_wp2
    go_ret
    exact ⟨rfl, rfl⟩
  · have hc := h.cell1
    generalize l.length = n at hc ⊢
    clear h
    by_cases h0 : 0 ≤ i
    · by_cases h1 : i < (n : Int)
      · have hf : inB n i = true := decide_eq_true ⟨h0, h1⟩
        rw [hf]
        clear hf
        go_enter Tryd.func44, Tryd.ntmps44
        go_wp2
        go_ret
        exact ⟨rfl, rfl⟩
      · have hf : inB n i = false := decide_eq_false (by omega)
        rw [hf]
        clear hf
        go_enter Tryd.func44, Tryd.ntmps44
        go_wp2
        go_ret
        exact ⟨rfl, rfl⟩
    · have hf : inB n i = false := decide_eq_false (by omega)
      rw [hf]
      clear hf
      go_enter Tryd.func44, Tryd.ntmps44
      go_wp2
      go_ret
      exact ⟨rfl, rfl⟩

theorem hasV {l : List Bool} {k x : Nat} (h : x >>> (k % 64) % 2 = if hasN l k = true then 1 else 0) (hx : x < 18446744073709551616) : (bits .and .u64 ((x : Int) / 2 ^ (k % 64)) 1 == 1) = hasN l k := by
  have e : ((x : Int) / 2 ^ (k % 64)) = ((x >>> (k % 64) : Nat) : Int) := by
    rw [Nat.shiftRight_eq_div_pow]
    simp
  have hlt : x >>> (k % 64) < 18446744073709551616 := by
    rw [Nat.shiftRight_eq_div_pow]
    exact Nat.lt_of_le_of_lt (Nat.div_le_self _ _) hx
  have := u64_and_nat (x >>> (k % 64)) 1 hlt (by omega)
  rw [nat_mask1, h] at this
  rw [e]
  rw [show ((1 : Nat) : Int) = 1 from rfl] at this
  rw [this]
  by_cases hb : hasN l k = true
  · rw [if_pos hb, hb]; rfl
  · rw [if_neg hb]
    have : hasN l k = false := by simpa using hb
    rw [this]; rfl
/-- is there such a number, and is it held? -/
def hasI (l : List Bool) (i : Int) : Bool := decide (0 ≤ i) && hasN l i.toNat
set_option maxRecDepth 100000 in
set_option maxHeartbeats 400000 in
theorem has_any (B : Nat) (v : Value) (l : List Bool) (i : Int) (w : World) (h : BV w B v l) : Calls Tryd.prog 15 #[v, .int .i64 i] w (Ret (.bool (hasI l i)) w) := by
  have HI := hide (in_any B v l i w h)
  by_cases hin : 0 ≤ i ∧ i < (l.length : Int)
  · rw [show inB l.length i = true from decide_eq_true hin] at HI
    obtain ⟨h0, h1⟩ := hin
    obtain ⟨k, rfl⟩ : ∃ k : Nat, i = k := ⟨i.toNat, by omega⟩
    have hX : hasI l (k : Nat) = hasN l k := by unfold hasI; rw [decide_eq_true h0, Int.toNat_natCast]; rfl
    rw [hX]
    rcases h with ⟨rfl, rfl⟩ | ⟨g, gw, rfl, h⟩
    · simp at h1; omega
    · have hc0 := h.cell0
      have hk : k / 64 < wcount l.length := by unfold wcount; omega
      have hw := h.word hk
      have hm := h.most
      have hkm : k < 16384 := by omega
      have hkc : ((k : Int) / 64) < ((wcount l.length : Nat) : Int) := by omega
      have HW := hide (wd_has l k)
      have hlt := wd_lt l (k / 64)
      clear h hX h1
      generalize wcount l.length = m at hc0 hk hkc
      generalize wd l (k / 64) = x at hw HW hlt
      go_enter Tryd.func15, Tryd.ntmps15
      go_wp2_with (go_at_call 44; refine HI.out.mono ?_; rintro en w' ⟨rfl, rfl⟩)
      go_ret
      exact ⟨by rw [hasV HW.out hlt]; rfl, rfl⟩
  · rw [show inB l.length i = false from decide_eq_false hin] at HI
    have hX : hasI l i = false := by
      unfold hasI
      by_cases h0 : 0 ≤ i
      · rw [decide_eq_true h0, hasN_big (by omega)]; rfl
      · rw [decide_eq_false h0]; rfl
    rw [hX]
    clear hX hin
    go_enter Tryd.func15, Tryd.ntmps15
    go_wp2_with (go_at_call 44; refine HI.out.mono ?_; rintro en w' ⟨rfl, rfl⟩)
    go_ret
    exact ⟨rfl, rfl⟩
end Go.Proofs.YtapfbjaopbcgjaaDoor
