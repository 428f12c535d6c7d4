/- Several texts in one: NumCut, TakeU, GetP, TakeB, GetW03, SizeP. -/
import Derived.Test.YtnjcncidlhllmaaGreatK5
import Derived.Deep.RegionWith
import Derived.Deep.DeepCutAuto
import Derived.Deep.RegionHeld3
namespace Go.Proofs.YtnjcncidlhllmaaGreat
set_option linter.unusedVariables false
set_option linter.unusedSimpArgs false
open Go.RowKit

theorem num_cut {w : World} {B : Nat} {A : Option Addr} {bs : List UInt8} {c at_ : Nat} (r : Value) (hr : Rd w B A (by8 bs)) (h1 : bs.length ≤ c) (h2 : c ≤ maxLen) (h3 : at_ ≤ bs.length) (nq : Nat) :
    Calls Tryz.prog 80 #[r, .slice (if c = at_ then A else A.map (·.add at_)) (bs.length - at_) (c - at_)] (w.drewN nq) fun e w' => e = .returned (numV (dec 0 0 (bs.drop at_))) ∧ w' = w.drewN nq :=
  (number_any r _ _ _ B (bs.drop at_) (w.drewN nq) (by simp) (by omega) (by omega) (by rw [by8_drop]; exact Rd.cut (w := w) hr (by rw [by8_length]; exact h1))).mono fun _ _ ⟨a, b⟩ => ⟨a, b.symm⟩

theorem num_none {w : World} {B : Nat} {A : Option Addr} {bs : List UInt8} {c at_ : Nat} (r : Value) (hr : Rd w B A (by8 bs)) (h1 : bs.length ≤ c) (h2 : c ≤ maxLen) (h3 : at_ ≤ bs.length) (hd : dec 0 0 (bs.drop at_) = none) (nq : Nat) :
    Calls Tryz.prog 80 #[r, .slice (if c = at_ then A else A.map (·.add at_)) (bs.length - at_) (c - at_)] (w.drewN nq) fun e w' => e = .returned (.tuple #[.int .u64 0, .int .i64 (-1)]) ∧ w' = w.drewN nq := by
  have h := num_cut r hr h1 h2 h3 nq
  rw [hd] at h
  exact h

theorem num_some {w : World} {B : Nat} {A : Option Addr} {bs : List UInt8} {c at_ u k : Nat} (r : Value) (hr : Rd w B A (by8 bs)) (h1 : bs.length ≤ c) (h2 : c ≤ maxLen) (h3 : at_ ≤ bs.length) (hd : dec 0 0 (bs.drop at_) = some (u, k)) (nq : Nat) :
    Calls Tryz.prog 80 #[r, .slice (if c = at_ then A else A.map (·.add at_)) (bs.length - at_) (c - at_)] (w.drewN nq) fun e w' => e = .returned (.tuple #[.int .u64 u, .int .i64 k]) ∧ w' = w.drewN nq := by
  have h := num_cut r hr h1 h2 h3 nq
  rw [hd] at h
  exact h

end Go.Proofs.YtnjcncidlhllmaaGreat
namespace Go.Proofs.YtnjcncidlhllmaaGreat
set_option linter.unusedVariables false
set_option linter.unusedSimpArgs false
open Go.RowKit

def uintR (bs : List UInt8) (a : Nat) (e : Int) : Nat × Nat × Int :=
  if e = 0 then (match dec 0 0 (bs.drop a) with | none => (0, a, 20) | some (u, k) => (u, a + k, 0)) else (0, a, e)

theorem uintR_lt (bs : List UInt8) (a : Nat) (e : Int) : (uintR bs a e).1 < 18446744073709551616 := by
  unfold uintR
  split
  · cases hd : dec 0 0 (bs.drop a) with
    | none => simp
    | some x => exact dec_lt _ 0 0 x.1 x.2 (by decide) hd
  · simp

theorem uintR_none {bs : List UInt8} {a : Nat} (hd : dec 0 0 (bs.drop a) = none) : uintR bs a 0 = (0, a, 20) := by unfold uintR; rw [if_pos rfl, hd]

theorem uintR_some {bs : List UInt8} {a u k : Nat} (hd : dec 0 0 (bs.drop a) = some (u, k)) : uintR bs a 0 = (u, a + k, 0) := by unfold uintR; rw [if_pos rfl, hd]

set_option maxRecDepth 100000 in
set_option maxHeartbeats 400000 in
theorem takeU_bad (g : Nat) (bs : List UInt8) (at_ : Nat) (w : World) (h : RD w g bs at_ 0) (hd : dec 0 0 (bs.drop at_) = none) :
    Calls Tryz.prog 134 #[.pointer (some ⟨g, 0, none⟩), .func (.func 80) #[.pointer (some ⟨g, 0, none⟩)] #[]] w (RDRet (.int .u64 0) w g bs at_ 20) := by
  obtain ⟨A, c, ⟨c0, c1, c2⟩, hf, h1, h2, h3, h4, hr⟩ := h.parts
  have HN := hide (num_none (.pointer (some ⟨g, 0, none⟩)) hr h1 h2 h3 hd)
  have H := hide h
  clear h hr hd
  go_enter Tryz.func134, Tryz.ntmps134
  go_wp2_with (fail)
  go_quiet ((go_at_call 80; exact Calls.quiet_of_same (HN.out _)))
  go_wp2
  all_goals
    go_ret
    exact ⟨rfl, (H.out.drewN _).set2 20, ((Fr.refl _ _).drewN _).put _ _⟩

set_option maxRecDepth 100000 in
set_option maxHeartbeats 400000 in
theorem takeU_ok (g : Nat) (bs : List UInt8) (at_ u k : Nat) (w : World) (h : RD w g bs at_ 0) (hd : dec 0 0 (bs.drop at_) = some (u, k)) :
    Calls Tryz.prog 134 #[.pointer (some ⟨g, 0, none⟩), .func (.func 80) #[.pointer (some ⟨g, 0, none⟩)] #[]] w (RDRet (.int .u64 u) w g bs (at_ + k) 0) := by
  obtain ⟨A, c, ⟨c0, c1, c2⟩, hf, h1, h2, h3, h4, hr⟩ := h.parts
  have HN := hide (num_some (.pointer (some ⟨g, 0, none⟩)) hr h1 h2 h3 hd)
  have hk := dec_le _ _ _ _ _ hd
  have hk1 : at_ + k ≤ bs.length := by have := hk.2; simp at this; omega
  have H := hide h
  clear h hr hd hk
  go_enter Tryz.func134, Tryz.ntmps134
  go_wp2_with (fail)
  go_quiet ((go_at_call 80; exact Calls.quiet_of_same (HN.out _)))
  go_wp2
  all_goals
    go_ret
    exact ⟨rfl, (H.out.drewN _).set1 _ hk1, ((Fr.refl _ _).drewN _).put _ _⟩

set_option maxRecDepth 100000 in
set_option maxHeartbeats 400000 in
theorem takeU_off (g : Nat) (bs : List UInt8) (at_ : Nat) (e : Int) (w : World) (f : Value) (h : RD w g bs at_ e) (he : e ≠ 0) :
    Calls Tryz.prog 134 #[.pointer (some ⟨g, 0, none⟩), f] w (RDRet (.int .u64 0) w g bs at_ e) := by
  obtain ⟨A, c, ⟨c0, c1, c2⟩, hf, h1, h2, h3, h4, hr⟩ := h.parts
  have hb : (e != 0) = true := by simpa using he
  have H := hide h
  clear h hr he
  go_enter Tryz.func134, Tryz.ntmps134
  go_wp2_with (fail)
  go_ret
  exact ⟨rfl, H.out, Fr.refl _ _⟩

set_option maxRecDepth 100000 in
set_option maxHeartbeats 400000 in
theorem takeU_nil (w : World) (f : Value) :
    Calls Tryz.prog 134 #[.pointer none, f] w (Ret (.int .u64 0) w) := by
  go_enter Tryz.func134, Tryz.ntmps134
  go_wp2_with (fail)
  go_ret
  exact ⟨rfl, rfl⟩

theorem takeU_all (g : Nat) (bs : List UInt8) (a : Nat) (e : Int) (w : World) (h : RD w g bs a e) :
    Calls Tryz.prog 134 #[.pointer (some ⟨g, 0, none⟩), .func (.func 80) #[.pointer (some ⟨g, 0, none⟩)] #[]] w (RDRet (.int .u64 (uintR bs a e).1) w g bs (uintR bs a e).2.1 (uintR bs a e).2.2) := by
  unfold uintR
  by_cases he : e = 0
  · subst he
    rw [if_pos rfl]
    cases hd : dec 0 0 (bs.drop a) with
    | none => exact takeU_bad g bs a w h hd
    | some x => exact takeU_ok g bs a x.1 x.2 w h hd
  · rw [if_neg he]
    exact takeU_off g bs a e w _ h he

set_option maxRecDepth 100000 in
set_option maxHeartbeats 400000 in
theorem int_any (g : Nat) (bs : List UInt8) (a : Nat) (e : Int) (w : World) (h : RD w g bs a e) :
    Calls Tryz.prog 101 #[.pointer (some ⟨g, 0, none⟩)] w (RDRet (.int .i64 (unzz (uintR bs a e).1)) w g bs (uintR bs a e).2.1 (uintR bs a e).2.2) := by
  have H := hide (takeU_all g bs a e w h)
  have HX := hide (xor_zz (uintR_lt bs a e))
  clear h
  generalize uintR bs a e = x at H HX
  go_enter Tryz.func101, Tryz.ntmps101
  go_wp2_with (go_at_call 134; refine H.out.mono ?_; rintro en w' ⟨rfl, hq⟩; have HQ := hide hq; clear hq)
  go_ret
  refine ⟨?_, HQ.out⟩
  rw [← HX.out]
  rfl

set_option maxRecDepth 100000 in
set_option maxHeartbeats 400000 in
theorem int_nil (w : World) :
    Calls Tryz.prog 101 #[.pointer none] w (Ret (.int .i64 0) w) := by
  have hx := xor_zz (u := 0) (by omega)
  have h00 : wrap64 0 = 0 := by unfold wrap64; omega
  simp [unzz, h00] at hx
  go_enter Tryz.func101, Tryz.ntmps101
  go_wp2_with (go_at_call 134; refine (takeU_nil _ _).mono ?_; rintro en w' ⟨rfl, rfl⟩)
  go_ret
  exact ⟨by simp [hx], rfl⟩

end Go.Proofs.YtnjcncidlhllmaaGreat
namespace Go.Proofs.YtnjcncidlhllmaaGreat
set_option linter.unusedVariables false
set_option linter.unusedSimpArgs false
open Go.RowKit

/-- so much is read: the rest of the row decides. -/
def Mid (b : List UInt8) (N : Nat) (xs : List Int) (a : Nat) : Prop := xs.length ≤ N ∧ InI xs ∧ a ≤ b.length ∧ getF N b 0 N = (getF (N - xs.length) b a (N - xs.length)).map fun r => (xs ++ r.1, r.2)
theorem Mid.start (b : List UInt8) (N : Nat) : Mid b N [] 0 := by
  refine ⟨Nat.zero_le _, (fun x h => by cases h), Nat.zero_le _, ?_⟩
  simp
theorem Mid.step {b : List UInt8} {N : Nat} {xs : List Int} {a : Nat} (h : Mid b N xs a) (hlt : xs.length < N) {x : List Int} {m : Nat} (hb : blkB (b.drop a) (min (N - xs.length) 128) = some (x, m)) : Mid b N (xs ++ x) (a + m) ∧ x.length = min (N - xs.length) 128 := by
  obtain ⟨h1, h2, h3, h4⟩ := h
  obtain ⟨q1, q2, q3, q4, q5⟩ := blk_parts hb
  rw [List.length_drop] at q4
  refine ⟨⟨by rw [List.length_append]; omega, ?_, by omega, ?_⟩, q1⟩
  · intro y hy
    rcases List.mem_append.1 hy with hy | hy
    · exact h2 y hy
    · exact q2 y hy
  · rw [h4]
    obtain ⟨f, hf⟩ : ∃ f, N - xs.length = f + 1 := ⟨N - xs.length - 1, by omega⟩
    rw [hf] at hb ⊢
    rw [getF, if_neg (by omega), hb]
    dsimp only
    rw [Option.map_map]
    have e : f + 1 - min (f + 1) 128 = N - (xs ++ x).length := by
      rw [List.length_append, q1, hf]
      omega
    rw [e, getF_fuel f (N - (xs ++ x).length) b (a + m) (N - (xs ++ x).length) (by rw [List.length_append, q1, hf]; omega) (Nat.le_refl _)]
    congr 1
    funext r
    simp
theorem Mid.bad {b : List UInt8} {N : Nat} {xs : List Int} {a : Nat} (h : Mid b N xs a) (hlt : xs.length < N) (hb : blkB (b.drop a) (min (N - xs.length) 128) = none) (hN : N ≤ 1048576) : getZ b N = ([], 0, 20) := by
  obtain ⟨h1, h2, h3, h4⟩ := h
  unfold getZ
  rw [if_neg (by omega), Int.toNat_natCast, h4]
  obtain ⟨f, hf⟩ : ∃ f, N - xs.length = f + 1 := ⟨N - xs.length - 1, by omega⟩
  rw [hf] at hb ⊢
  rw [getF, if_neg (by omega), hb]
  rfl
theorem Mid.done {b : List UInt8} {N : Nat} {xs : List Int} {a : Nat} (h : Mid b N xs a) (hlt : xs.length = N) (hN : N ≤ 1048576) : getZ b N = (xs, a, 0) := by
  obtain ⟨h1, h2, h3, h4⟩ := h
  unfold getZ
  rw [if_neg (by omega), Int.toNat_natCast, h4, hlt, Nat.sub_self]
  simp [getF]
theorem getZ_arg (b : List UInt8) {n : Int} (h : n < 0 ∨ 1048576 < n) : getZ b n = ([], 0, 1) := if_pos h

/-! How a block can be no block. -/
theorem p_none {t : List UInt8} {k : Nat} (h : dec 0 0 t = none) : parseB t k = none := by unfold parseB; rw [h]
theorem p_end {t : List UInt8} {k u j : Nat} (h : dec 0 0 t = some (u, j)) (hj : ¬ j < t.length) : parseB t k = none := by unfold parseB; rw [h]; dsimp only; rw [if_neg hj]
theorem p_wide {t : List UInt8} {k u j : Nat} (h : dec 0 0 t = some (u, j)) (hj : j < t.length) (hw : ¬ (t.getD j 0).toNat ≤ 64) : parseB t k = none := by unfold parseB; rw [h]; dsimp only; rw [if_pos hj, if_neg hw]
theorem p_short {t : List UInt8} {k u j : Nat} (h : dec 0 0 t = some (u, j)) (hj : j < t.length) (hw : (t.getD j 0).toNat ≤ 64) (hs : ¬ j + 1 + psz (t.getD j 0).toNat k ≤ t.length) : parseB t k = none := by unfold parseB; rw [h]; dsimp only; rw [if_pos hj, if_pos hw, if_neg hs]
theorem p_left {t : List UInt8} {k u j : Nat} (h : dec 0 0 t = some (u, j)) (hj : j < t.length) (hw : (t.getD j 0).toNat ≤ 64) (hs : j + 1 + psz (t.getD j 0).toNat k ≤ t.length) (hl : leftN ((t.drop (j + 1)).take (psz (t.getD j 0).toNat k)) ((t.getD j 0).toNat * k) ≠ 0) : parseB t k = none := by unfold parseB; rw [h]; dsimp only; rw [if_pos hj, if_pos hw, if_pos hs, if_neg hl]
theorem p_some {t : List UInt8} {k u j : Nat} (h : dec 0 0 t = some (u, j)) (hj : j < t.length) (hw : (t.getD j 0).toNat ≤ 64) (hs : j + 1 + psz (t.getD j 0).toNat k ≤ t.length) (hl : leftN ((t.drop (j + 1)).take (psz (t.getD j 0).toNat k)) ((t.getD j 0).toNat * k) = 0) :
    parseB t k = some (unzz u, (t.getD j 0).toNat, unpacked (t.getD j 0).toNat k ((t.drop (j + 1)).take (psz (t.getD j 0).toNat k)), j + 1 + psz (t.getD j 0).toNat k) := by unfold parseB; rw [h]; dsimp only; rw [if_pos hj, if_pos hw, if_pos hs, if_pos hl]
theorem b_none {t : List UInt8} {k : Nat} (h : parseB t k = none) : blkB t k = none := by unfold blkB; rw [h]
theorem b_bad {t : List UInt8} {k : Nat} {le : Int} {w : Nat} {ab : List Nat} {m : Nat} (h : parseB t k = some (le, w, ab, m)) (hb : ¬ blkOk le w ab) : blkB t k = none := by unfold blkB; rw [h]; dsimp only; rw [if_neg hb]
theorem b_some {t : List UInt8} {k : Nat} {le : Int} {w : Nat} {ab : List Nat} {m : Nat} (h : parseB t k = some (le, w, ab, m)) (hb : blkOk le w ab) : blkB t k = some (ab.map (fun (u : Nat) => le + (u : Int)), m) := by unfold blkB; rw [h]; dsimp only; rw [if_pos hb]
theorem un_one {t : List UInt8} {j : Nat} (h : j < t.length) : (t.drop j).take 1 = [t.getD j 0] := by
  rw [List.drop_eq_getElem_cons h, List.getD_eq_getElem?_getD, List.getElem?_eq_getElem h]
  rfl
/-- reading bytes. -/
theorem bS_off (t : List UInt8) (a : Nat) (e x : Int) (h : e ≠ 0) : bytesS t a e x = ([], a, e) := if_neg h
theorem bS_ok {t : List UInt8} {a k : Nat} (h : a + k ≤ t.length) : bytesS t a 0 (k : Nat) = ((t.drop a).take k, a + k, 0) := by
  unfold bytesS
  rw [if_pos rfl]
  unfold bytesR
  rw [if_neg (by rw [List.length_drop]; omega)]
  rfl
theorem bS_bad {t : List UInt8} {a k : Nat} (ha : a ≤ t.length) (h : ¬ a + k ≤ t.length) : bytesS t a 0 (k : Nat) = ([], a, 20) := by
  unfold bytesS
  rw [if_pos rfl]
  unfold bytesR
  rw [if_pos (by rw [List.length_drop]; omega)]
end Go.Proofs.YtnjcncidlhllmaaGreat
namespace Go.Proofs.YtnjcncidlhllmaaGreat
set_option linter.unusedVariables false
set_option linter.unusedSimpArgs false
open Go.RowKit

set_option maxRecDepth 100000 in
set_option maxHeartbeats 800000 in
theorem bytes1_bad (b2 : Nat) (x : Int) (A : Option Addr) (n c : Nat) (W : World) (hn : n ≤ c) (hc : c ≤ maxLen) (hx : x < 0 ∨ (n : Int) < x) (c2 : W.cell? ⟨b2, 0, none⟩ = some (.int .i64 x)) :
    Calls Tryz.prog 84 #[.slice A n c, .pointer (some ⟨b2, 0, none⟩)] W (Ret (.tuple #[.slice none 0 0, .int .i64 (-1)]) W) := by
  unfold maxLen at hc
  by_cases h0 : x < 0
  all_goals
    go_enter Tryz.func84, Tryz.ntmps84
    go_wp2
    go_ret2
    exact ⟨rfl, rfl⟩

set_option maxRecDepth 100000 in
set_option maxHeartbeats 800000 in
theorem bytes1_ok (b2 k : Nat) (A : Option Addr) (n c B : Nat) (t : List UInt8) (W : World) (hk : k ≤ n) (hn : n ≤ c) (hc : c ≤ maxLen) (hb : n ≤ 140737488355328) (hB : B ≤ W.heap.size) (ht : t.length = k) (hr : Rd W B A (by8 t)) (c2 : W.cell? ⟨b2, 0, none⟩ = some (.int .i64 k)) :
    Calls Tryz.prog 84 #[.slice A n c, .pointer (some ⟨b2, 0, none⟩)] W (fun en w' => ∃ v, en = .returned (.tuple #[v, .int .i64 k]) ∧ Own w' W.heap.size 5 1 v k (by8 t) ∧ Fr No W w') := by
  have HC := hide hc
  unfold maxLen at hc
  have HR := hide hr
  have HB := hide hB
  have HT := hide ht
  have hkc : k ≤ c := by omega
  have hkb : k ≤ 140737488355328 := by omega
  clear hr hB ht
  go_enter Tryz.func84, Tryz.ntmps84
  go_wp2
  go_region_with (first
    | (go_at_call 77; refine (clone_any A k c B t _ HT.out hkc HC.out hkb ?_ ?_).mono ?_; exact HB.out; exact HR.out; rintro en w1 ⟨v1, rfl, hown, hfr⟩; obtain ⟨A1, c1, rfl, hq1, hq2, _⟩ := hown.form; have c2' : w1.cell? ⟨b2, 0, none⟩ = some (.int .i64 k) := hfr.cell (p := ⟨b2, 0, none⟩) c2 (fun h => h); have HO : Hid (Own w1 W.heap.size 5 1 (.slice A1 t.length c1) t.length (by8 t)) := hown; have HF : Hid (Fr No W w1) := ⟨hfr.os, hfr.tape, hfr.output, hfr.size, hfr.block⟩; clear hown hfr)
    | (go_at_call 74; refine (clip_any A1 t.length c1 _ hq1 hq2).mono ?_; rintro en w2 ⟨rfl, rfl⟩))
  all_goals (try go_wp2)
  all_goals go_ret2
  all_goals
    refine ⟨_, rfl, ?_, ?_⟩
    · have h := HO.out.clip
      rw [HT.out] at h
      rw [HT.out]
      exact h
    · exact HF.out

/-- bytes of a reader: new ones. -/
def GivesRB (s : List UInt8) (w : World) (g : Nat) (bs : List UInt8) (a : Nat) (e : Int) (en : Ending) (w' : World) : Prop :=
  ∃ v, en = .returned v ∧ Own w' w.heap.size 5 1 v s.length (by8 s) ∧ RD w' g bs a e ∧ Fr (Is g) w w'

/-- .., and the reader's bytes lie where they lay. -/
def Same0 (w : World) (g : Nat) (w' : World) : Prop := w'.cell? ⟨g, 0, none⟩ = w.cell? ⟨g, 0, none⟩

def RDRetC (v : Value) (w : World) (g : Nat) (bs : List UInt8) (a : Nat) (e : Int) (en : Ending) (w' : World) : Prop := RDRet v w g bs a e en w' ∧ Same0 w g w'

def GivesRC (s : List UInt8) (w : World) (g : Nat) (bs : List UInt8) (a : Nat) (e : Int) (en : Ending) (w' : World) : Prop := GivesRB s w g bs a e en w' ∧ Same0 w g w'

theorem Same0.put {w w' : World} {g : Nat} (h : Same0 w g w') (i : Nat) (hi : i ≠ 0) (v : Value) : Same0 w g (w'.setCell ⟨g, i, none⟩ v) :=
  (World.cell?_setCell_other w' ⟨g, i, none⟩ ⟨g, 0, none⟩ v (by intro h; injection h; exact hi (by assumption))).trans h

theorem Same0.fr {w w' : World} {g : Nat} {v : Value} (h : w.cell? ⟨g, 0, none⟩ = some v) (f : Fr No w w') : Same0 w g w' := (f.cell (p := ⟨g, 0, none⟩) h (fun h => h)).trans h.symm

theorem Same0.drewN (w : World) (g n : Nat) : Same0 w g (w.drewN n) := rfl

set_option maxRecDepth 100000 in
set_option maxHeartbeats 400000 in
theorem takeB_bad (g : Nat) (bs : List UInt8) (a b2 : Nat) (x : Int) (w : World) (h : RD w g bs a 0) (c2 : w.cell? ⟨b2, 0, none⟩ = some (.int .i64 x)) (hx : x < 0 ∨ ((bs.length - a : Nat) : Int) < x) :
    Calls Tryz.prog 83 #[.pointer (some ⟨g, 0, none⟩), .func (.func 84) #[] #[.pointer (some ⟨b2, 0, none⟩)]] w (RDRetC (.slice none 0 0) w g bs a 20) := by
  obtain ⟨A, c, ⟨d0, d1, d2⟩, hf, h1, h2, h3, h4, hr⟩ := h.parts
  have HN : Hid (∀ nq, Calls Tryz.prog 84 #[.slice (if c = a then A else A.map (·.add a)) (bs.length - a) (c - a), .pointer (some ⟨b2, 0, none⟩)] (w.drewN nq) fun e w' => e = .returned (.tuple #[.slice none 0 0, .int .i64 (-1)]) ∧ w' = w.drewN nq) := fun nq =>
    (bytes1_bad b2 x _ _ _ (w.drewN nq) (by omega) (by omega) hx c2).mono fun _ _ ⟨p, q⟩ => ⟨p, q.symm⟩
  have H := hide h
  clear h hr hx c2
  go_enter Tryz.func83, Tryz.ntmps83
  go_wp2_with (fail)
  go_quiet ((go_at_call 84; exact Calls.quiet_of_same (HN.out _)))
  go_wp2
  all_goals
    go_ret
    exact ⟨⟨rfl, (H.out.drewN _).set2 20, ((Fr.refl _ _).drewN _).put _ _⟩, (Same0.drewN _ _ _).put 2 (by omega) _⟩

set_option maxRecDepth 100000 in
set_option maxHeartbeats 800000 in
theorem takeB_ok (g : Nat) (bs : List UInt8) (a b2 k : Nat) (w : World) (h : RD w g bs a 0) (c2 : w.cell? ⟨b2, 0, none⟩ = some (.int .i64 k)) (hk : a + k ≤ bs.length) :
    Calls Tryz.prog 83 #[.pointer (some ⟨g, 0, none⟩), .func (.func 84) #[] #[.pointer (some ⟨b2, 0, none⟩)]] w (GivesRC ((bs.drop a).take k) w g bs (a + k) 0) := by
  obtain ⟨A, c, ⟨d0, d1, d2⟩, hf, h1, h2, h3, h4, hr⟩ := h.parts
  have htl : ((bs.drop a).take k).length = k := by simp; omega
  have hrt : Rd w w.heap.size (if c = a then A else A.map (·.add a)) (by8 ((bs.drop a).take k)) := by
    rw [by8_take, by8_drop]
    exact (hr.cut (by rw [by8_length]; exact h1)).tk k
  have HN : Hid (∀ w', w'.heap = w.heap → Calls Tryz.prog 84 #[.slice (if c = a then A else A.map (·.add a)) (bs.length - a) (c - a), .pointer (some ⟨b2, 0, none⟩)] w' (fun en w2 => ∃ v, en = .returned (.tuple #[v, .int .i64 k]) ∧ Own w2 w'.heap.size 5 1 v k (by8 ((bs.drop a).take k)) ∧ Fr No w' w2)) := by
    intro w' hw
    have hcell : ∀ p, w'.cell? p = w.cell? p := fun p => by simp [World.cell?, hw]
    refine bytes1_ok b2 k _ _ _ w'.heap.size _ w' (by omega) (by omega) (by omega) (by omega) (Nat.le_refl _) htl ?_ (by rw [hcell]; exact c2)
    intro j u hu
    obtain ⟨ad, e, hb, hcc⟩ := hrt j u hu
    exact ⟨ad, e, by rw [hw]; exact hb, by rw [hcell]; exact hcc⟩
  have H := hide h
  have HTL := hide htl
  generalize (bs.drop a).take k = t at HN HTL
  clear h hr hrt c2 htl
  by_cases hca : c = a
  · have HN1 := HN.out
    rw [if_pos hca, hca, Nat.sub_self] at HN1
    have HN2 := hide HN1
    clear HN HN1
    go_enter Tryz.func83, Tryz.ntmps83
    go_wp2_with (fail)
    go_region_with (go_at_call 84; refine (HN2.out w.drew rfl).mono ?_; rintro en w1 ⟨v1, rfl, hown, hfr⟩; have HO : Hid (Own w1 w.heap.size 5 1 v1 k (by8 t)) := hown; have HF : Hid (Fr No w w1) := ⟨hfr.os, hfr.tape, hfr.output, hfr.size, hfr.block⟩; clear hown hfr; have HR1 := hide (H.out.fr0 HF.out); obtain ⟨A1, k1, ⟨e0, e1, e2⟩, hf1, _⟩ := HR1.out.parts)
    all_goals (try go_wp2)
    all_goals go_ret
    all_goals
      refine ⟨⟨_, rfl, ?_, HR1.out.set1 _ hk, (HF.out.any (Is g)).put _ _⟩, (Same0.fr d0 HF.out).put 1 (by omega) _⟩
      rw [HTL.out]
      refine HO.out.fr ((Fr.refl (Is g) w1).put 1 _) ?_
      rintro g' hg' rfl
      obtain ⟨_, _, hh, _⟩ := HR1.out
      exact HO.out.ne_blk hg' hh (by decide)
  · have HN1 := HN.out
    rw [if_neg hca] at HN1
    have HN2 := hide HN1
    clear HN HN1
    go_enter Tryz.func83, Tryz.ntmps83
    go_wp2_with (fail)
    go_region_with (go_at_call 84; refine (HN2.out w.drew rfl).mono ?_; rintro en w1 ⟨v1, rfl, hown, hfr⟩; have HO : Hid (Own w1 w.heap.size 5 1 v1 k (by8 t)) := hown; have HF : Hid (Fr No w w1) := ⟨hfr.os, hfr.tape, hfr.output, hfr.size, hfr.block⟩; clear hown hfr; have HR1 := hide (H.out.fr0 HF.out); obtain ⟨A1, k1, ⟨e0, e1, e2⟩, hf1, _⟩ := HR1.out.parts)
    all_goals (try go_wp2)
    all_goals go_ret
    all_goals
      refine ⟨⟨_, rfl, ?_, HR1.out.set1 _ hk, (HF.out.any (Is g)).put _ _⟩, (Same0.fr d0 HF.out).put 1 (by omega) _⟩
      rw [HTL.out]
      refine HO.out.fr ((Fr.refl (Is g) w1).put 1 _) ?_
      rintro g' hg' rfl
      obtain ⟨_, _, hh, _⟩ := HR1.out
      exact HO.out.ne_blk hg' hh (by decide)

set_option maxRecDepth 100000 in
set_option maxHeartbeats 400000 in
theorem takeB_off (g : Nat) (bs : List UInt8) (at_ : Nat) (e : Int) (w : World) (f : Value) (h : RD w g bs at_ e) (he : e ≠ 0) :
    Calls Tryz.prog 83 #[.pointer (some ⟨g, 0, none⟩), f] w (RDRetC (.slice none 0 0) w g bs at_ e) := by
  obtain ⟨A, c, ⟨c0, c1, c2⟩, hf, h1, h2, h3, h4, hr⟩ := h.parts
  have hb : (e != 0) = true := by simpa using he
  have H := hide h
  clear h hr he
  go_enter Tryz.func83, Tryz.ntmps83
  go_wp2_with (fail)
  go_ret
  exact ⟨⟨rfl, H.out, Fr.refl _ _⟩, rfl⟩

set_option maxRecDepth 100000 in
set_option maxHeartbeats 400000 in
theorem takeB_nil (w : World) (f : Value) :
    Calls Tryz.prog 83 #[.pointer none, f] w (Ret (.slice none 0 0) w) := by
  go_enter Tryz.func83, Tryz.ntmps83
  go_wp2_with (fail)
  go_ret
  exact ⟨rfl, rfl⟩

theorem GivesRB.nil {w : World} {g : Nat} {bs : List UInt8} {a : Nat} {e : Int} {en : Ending} {w' : World} (h : RDRet (.slice none 0 0) w g bs a e en w') : GivesRB [] w g bs a e en w' :=
  ⟨_, h.1, Own.nil _ _ _ _, h.2.1, h.2.2⟩

theorem GivesRC.nil {w : World} {g : Nat} {bs : List UInt8} {a : Nat} {e : Int} {en : Ending} {w' : World} (h : RDRetC (.slice none 0 0) w g bs a e en w') : GivesRC [] w g bs a e en w' := ⟨GivesRB.nil h.1, h.2⟩

theorem takeB_all (g : Nat) (bs : List UInt8) (a b2 : Nat) (e x : Int) (w : World) (h : RD w g bs a e) (c2 : w.cell? ⟨b2, 0, none⟩ = some (.int .i64 x)) :
    Calls Tryz.prog 83 #[.pointer (some ⟨g, 0, none⟩), .func (.func 84) #[] #[.pointer (some ⟨b2, 0, none⟩)]] w (GivesRC (bytesS bs a e x).1 w g bs (bytesS bs a e x).2.1 (bytesS bs a e x).2.2) := by
  unfold bytesS
  by_cases he : e = 0
  · subst he
    rw [if_pos rfl]
    unfold bytesR
    by_cases hx : x < 0 ∨ ((bs.drop a).length : Int) < x
    · rw [if_pos hx]
      exact (takeB_bad g bs a b2 x w h c2 (by simpa using hx)).mono fun _ _ h => GivesRC.nil h
    · rw [if_neg hx]
      obtain ⟨k, rfl⟩ := Int.eq_ofNat_of_zero_le (a := x) (by omega)
      exact takeB_ok g bs a b2 k w h c2 (by
        obtain ⟨_, _, _, _, _, h3, _⟩ := h
        simp at hx
        omega)
  · rw [if_neg he]
    exact (takeB_off g bs a e w _ h he).mono fun _ _ h => GivesRC.nil h

set_option maxRecDepth 100000 in
set_option maxHeartbeats 400000 in
theorem bytes_anyC (g : Nat) (bs : List UInt8) (a : Nat) (e x : Int) (w : World) (h : RD w g bs a e) :
    Calls Tryz.prog 52 #[.pointer (some ⟨g, 0, none⟩), .int .i64 x] w (GivesRC (bytesS bs a e x).1 w g bs (bytesS bs a e x).2.1 (bytesS bs a e x).2.2) := by
  have H := hide (fun t => takeB_all g bs a w.heap.size e x _ (h.fr0 ((Fr.refl No w).alloc _)) (box0 w (.int .i64 x) t))
  have H00 : Hid (∀ t, (w.alloc (.cells #[.int .i64 x] t)).cell? ⟨g, 0, none⟩ = w.cell? ⟨g, 0, none⟩) := fun t => by
    obtain ⟨_, _, ⟨q, _⟩, _⟩ := h.parts
    exact Same0.fr q ((Fr.refl No w).alloc _)
  clear h
  generalize bytesS bs a e x = y at H
  go_enter Tryz.func52, Tryz.ntmps52
  go_wp2_with (go_at_call 83; refine (H.out _).mono ?_; rintro en w' ⟨⟨v, rfl, hq⟩, h0⟩; have HQ := hide hq; have H0 : Hid (Same0 w g w') := hide (h0.trans (H00.out _)); clear hq h0)
  go_ret
  exact ⟨⟨_, rfl, HQ.out.1.lower (by simp), HQ.out.2.1, ((Fr.refl (Is g) w).alloc _).ts HQ.out.2.2⟩, H0.out⟩

theorem bytes_any (g : Nat) (bs : List UInt8) (a : Nat) (e x : Int) (w : World) (h : RD w g bs a e) :
    Calls Tryz.prog 52 #[.pointer (some ⟨g, 0, none⟩), .int .i64 x] w (GivesRB (bytesS bs a e x).1 w g bs (bytesS bs a e x).2.1 (bytesS bs a e x).2.2) := (bytes_anyC g bs a e x w h).mono fun _ _ h => h.1

set_option maxRecDepth 100000 in
set_option maxHeartbeats 400000 in
theorem bytes_nil (x : Int) (w : World) :
    Calls Tryz.prog 52 #[.pointer none, .int .i64 x] w (fun en w' => en = .returned (.slice none 0 0) ∧ Fr No w w') := by
  go_enter Tryz.func52, Tryz.ntmps52
  go_wp2_with (go_at_call 83; refine (takeB_nil _ _).mono ?_; rintro en w' ⟨rfl, rfl⟩)
  go_ret
  exact ⟨rfl, (Fr.refl No w).alloc _⟩

/-- where a reader's bytes lie: below M. -/
def At0 (w : World) (g M : Nat) : Prop := ∀ A n c, w.cell? ⟨g, 0, none⟩ = some (.slice A n c) → ∀ k, (Value.slice A n c).ownBlock = some k → k < M

theorem At0.of {w : World} {g : Nat} {bs : List UInt8} {a : Nat} {e : Int} (h : RD w g bs a e) : At0 w g w.heap.size := by
  obtain ⟨A, c, hh, h1, h2, h3, h4, ho⟩ := h
  intro A' n' c' hc k hk
  rw [cell_of_row w g 0 _ _ (0, 0) hh] at hc
  have : Value.slice A bs.length c = .slice A' n' c' := by simpa using hc
  rw [← this] at hk
  exact (ho.lt k hk).2

theorem At0.same {w w' : World} {g M : Nat} (h : At0 w g M) (f : Same0 w g w') : At0 w' g M := by
  intro A n c hc k hk
  exact h A n c (f.symm.trans hc) k hk

/-- stores into blocks from M on leave a reader alone, if it and its bytes lie below M. -/
theorem RD.above {S : Nat → Prop} {w w' : World} {g M : Nat} {bs : List UInt8} {a : Nat} {e : Int} (h : RD w g bs a e) (h0 : At0 w g M) (hg : g < M) (f : Fr S w w') (hS : ∀ k, k < M → ¬ S k) : RD w' g bs a e := by
  obtain ⟨A, c, hh, h1, h2', h3, h4, ho⟩ := h
  refine ⟨A, c, f.blk hh (hS g hg), h1, h2', h3, h4, ho.fr f ?_⟩
  intro k hk
  exact hS k (h0 A bs.length c (by rw [cell_of_row w g 0 _ _ (0, 0) hh]; rfl) k hk)

end Go.Proofs.YtnjcncidlhllmaaGreat
namespace Go.Proofs.YtnjcncidlhllmaaGreat
set_option linter.unusedVariables false
set_option linter.unusedSimpArgs false
open Go.RowKit

theorem Tryz.infoI64g : (Tryz.prog.info? 2).map (fun i => (i.zero, i.size, i.bytes)) = some (some (.int .i64 0), 1, 8) := by kernel_rfl
/-- a row that was read, or refused. -/
def GivesGetP (r : List Int × Nat × Int) (w : World) (en : Ending) (w' : World) : Prop :=
  ∃ v, en = .returned (.tuple #[v, .int .i64 (r.2.1 : Nat), .int .i64 r.2.2]) ∧ Own w' w.heap.size 2 1 v r.1.length (iz .i64 r.1) ∧ Fr No w w'
theorem Own.offRD {w w' : World} {base e n g : Nat} {v : Value} {xs : List Value} {bs : List UInt8} {a : Nat} {er : Int} (h : Own w base e 1 v n xs) (r : RD w g bs a er) (hne : e ≠ 108) (f : Fr (Is g) w w') : Own w' base e 1 v n xs := by
  obtain ⟨_, _, hh, _⟩ := r
  refine h.fr f ?_
  rintro k hk rfl
  exact h.ne_blk hk hh hne
theorem RD.off {w w' : World} {g : Nat} {bs : List UInt8} {a : Nat} {e : Int} {b2 e2 n2 : Nat} {v2 : Value} {xs2 : List Value} (h : RD w g bs a e) (o : Own w b2 e2 1 v2 n2 xs2) (h1 : 5 ≠ e2) (h2 : e2 ≠ 108) (f : Fr (fun k => v2.ownBlock = some k) w w') : RD w' g bs a e := by
  obtain ⟨A, c, hh, q1, q2, q3, q4, ho⟩ := h
  exact ⟨A, c, f.blk hh (fun hk => o.ne_blk hk hh h2), q1, q2, q3, q4, ho.fr f (fun k hk e => ho.apart o h1 k hk e)⟩

set_option maxRecDepth 100000 in
set_option maxHeartbeats 400000 in
theorem get_arg (A : Option Addr) (m c : Nat) (ni : Int) (w : World) (h : ni < 0 ∨ 1048576 < ni) :
    Calls Tryz.prog 68 #[.slice A m c, .int .i64 ni] w (Ret (.tuple #[.slice none 0 0, .int .i64 0, .int .i64 1]) w) := by
  by_cases h1 : ni < 0
  · clear h
    go_enter Tryz.func68, Tryz.ntmps68
    go_wp2
    go_ret3
    exact ⟨rfl, rfl⟩
  · have h2 : 1048576 < ni := by omega
    clear h
    go_enter Tryz.func68, Tryz.ntmps68
    go_wp2
    go_ret3
    exact ⟨rfl, rfl⟩

set_option maxRecDepth 100000 in
set_option maxHeartbeats 4000000 in
theorem get_in (A : Option Addr) (m c B N : Nat) (b : List UInt8) (w : World) (hl : b.length = m) (hm : m ≤ 140737488355328) (hn : m ≤ c) (hc : c ≤ maxLen) (hN : N ≤ 1048576) (hB : B ≤ w.heap.size) (hr : Rd w B A (by8 b)) :
    Calls Tryz.prog 68 #[.slice A m c, .int .i64 (N : Nat)] w (GivesGetP (getZ b N) w) := by
  obtain ⟨i0, hi0, iz0, isz, iby⟩ := info_parts Tryz.infoI64g
  have HNew := hide (newReader_any A m c B b w hl hn hc hm hB hr)
  have HL := hide hl
  obtain ⟨res, hres⟩ : ∃ r, r = getZ b N := ⟨_, rfl⟩
  rw [← hres]
  have HRes := hide hres
  have hbad : ∀ en w', en = .returned (.tuple #[.slice none 0 0, .int .i64 0, .int .i64 20]) → Fr No w w' → Hid (getZ b N = ([], 0, 20)) → GivesGetP res w en w' := fun en w' h1 h2 h3 => by
    rw [HRes.out, h3.out]
    exact ⟨_, h1, Own.nil _ _ _ _, h2⟩
  have HBad := hide hbad
  unfold maxLen at hc
  clear hr hl hres hbad
  go_enter Tryz.func68, Tryz.ntmps68
  go_wp2_with (go_at_call 48; refine HNew.out.mono ?_; rintro en0 w0 ⟨g, rfl, hg, hrd, hfr⟩; have HRD0 := hide hrd; have HF0 := hide hfr; clear hrd hfr)
  go_loopg [7, 9, 10, 11, 12, 13, 15, 16] N (fun gk l s9 s10 s11 s12 s13 s15 s16 wr => ∃ (xs : List Int) (X a : Nat), X + gk = N ∧ Hid (xs.length = X) ∧ Hid (RD wr g b a 0) ∧ Hid (Mid b N xs a) ∧ Hid (Own wr w.heap.size 2 1 l X (iz .i64 xs)) ∧ Hid (Fr No w wr))
  case atStart => exact ⟨[], 0, 0, by omega, hide rfl, HRD0, hide (Mid.start b N), hide (Own.nil _ _ _ _), HF0⟩
  case round =>
    clear HRD0 HF0 HNew
    obtain ⟨xs, X, a, hX, HX, HRD, HMid, HOw, HFr⟩ := hrel
    obtain ⟨Al, cl, rfl, ql1, ql2, _⟩ := HOw.out.form
    have HQl2 := hide ql2
    unfold maxLen at ql2
    by_cases hlt : X < N
    · obtain ⟨K, hK⟩ : ∃ K, K = min (N - X) 128 := ⟨_, rfl⟩
      have hK1 : 1 ≤ K ∧ K ≤ 128 ∧ X + K ≤ N := by omega
      have HK := hide hK
      obtain ⟨d, hd⟩ : ∃ d, d = N - X := ⟨_, rfl⟩
      have e1 : (N : Int) - (X : Int) = (d : Int) := by omega
      have em : (if (128 : Int) < (d : Int) then (128 : Int) else (d : Int)) = (K : Int) := by split <;> omega
      clear hK hd
      obtain ⟨t, ht⟩ : ∃ t, t = b.drop a := ⟨_, rfl⟩
      have hal : a ≤ b.length := HMid.out.2.2.1
      have htl : t.length + a = b.length := by rw [ht, List.length_drop]; omega
      have HTd := hide ht
      have HTl := hide htl
      have HDr0 := hide (fun q => (show t.drop q = b.drop (a + q) by rw [ht, List.drop_drop]))
      have hbb : ∀ en w', en = .returned (.tuple #[.slice none 0 0, .int .i64 0, .int .i64 20]) → Fr (Is g) wr w' → Hid (blkB t K = none) → GivesGetP res w en w' := fun en w' h1 h2 h3 => by
        refine HBad.out en w' h1 (HFr.out.own1 h2 hg) (hide ?_)
        refine HMid.out.bad (by rw [HX.out]; exact hlt) ?_ hN
        rw [HX.out, ← HK.out, ← HTd.out]
        exact h3.out
      have HBB := hide hbb
      have HBad2 : Hid (∀ en w', en = .returned (.tuple #[.slice none 0 0, .int .i64 0, .int .i64 20]) → Fr No w w' → Hid (blkB t K = none) → GivesGetP res w en w') := hide (fun en w' h1 h2 h3 => by
        refine HBad.out en w' h1 h2 (hide ?_)
        refine HMid.out.bad (by rw [HX.out]; exact hlt) ?_ hN
        rw [HX.out, ← HK.out, ← HTd.out]
        exact h3.out)
      have HI1 := hide (int_any g b a 0 wr HRD.out)
      clear hbb HRes ht
      cases hd : dec 0 0 t with
      | none =>
        rw [uintR_none (bs := b) (a := a) (by rw [← HTd.out]; exact hd)] at HI1
        have HN := hide (b_none (k := K) (p_none hd))
        clear hd htl
        go_wp2_with (first
          | (go_at_call 101; refine HI1.out.mono ?_; clear HI1; rintro en1 w1 ⟨rfl, hs, hf⟩; have HS1 := hide hs; have HF1 := hide hf; have HB1 := hide (bytes_any g b a 20 1 w1 HS1.out); rw [bS_off b a 20 1 (by decide)] at HB1; clear hs hf)
          | (go_at_call 52; refine HB1.out.mono ?_; clear HB1; rintro en1 w2 ⟨v2, rfl, hown, hs, hf⟩; have HO2 := hide hown; have HS2 := hide hs; have HF2 := hide (HF1.out.ts hf); have HEr := hide (err_any g b _ _ w2 hs); obtain ⟨A2, c2, rfl, _⟩ := hown.form; clear hown hs hf)
          | (go_at_call 50; refine HEr.out.mono ?_; rintro en1 wE ⟨rfl, rfl⟩))
        go_ret3
        exact HBB.out _ _ rfl HF2.out HN
      | some uj =>
        obtain ⟨u, j⟩ := uj
        have hj := dec_le _ _ _ _ _ hd
        rw [uintR_some (bs := b) (a := a) (by rw [← HTd.out]; exact hd)] at HI1
        have HDec := hide hd
        have HDr := hide (HDr0.out j)
        clear hd
        by_cases hjt : j < t.length
        · obtain ⟨wb, hwb⟩ : ∃ x, x = (t.getD j 0).toNat := ⟨_, rfl⟩
          have hwb256 : wb < 256 := by rw [hwb]; exact (t.getD j 0).toNat_lt
          have HWB := hide hwb
          clear hwb
          by_cases hw64 : wb ≤ 64
          · obtain ⟨sz, hsz⟩ : ∃ s, s = psz wb K := ⟨_, rfl⟩
            have hszb : sz ≤ 1025 := by rw [hsz]; have := psz_le (n := K) hw64; omega
            have hwk : wb * K ≤ 8192 := Nat.le_trans (Nat.mul_le_mul hw64 hK1.2.1) (by decide)
            have HSz := hide (fun w => size_any wb K w (by omega))
            rw [← hsz] at HSz
            have HSZ := hide hsz
            clear hsz
            obtain ⟨wk, hwkk⟩ : ∃ x, x = wb * K := ⟨_, rfl⟩
            rw [← hwkk] at hwk
            have HWk := hide hwkk
            clear hwkk
            obtain ⟨pb, pl, er, hbs⟩ : ∃ pb pl er, bytesS b (a + j + 1) 0 (sz : Nat) = (pb, pl, er) := ⟨_, _, _, rfl⟩
            have HBs := hide hbs
            obtain ⟨ab, ue, hub⟩ : ∃ ab ue, unbitsZ pb (wb : Nat) (K : Nat) = (ab, ue) := ⟨_, _, rfl⟩
            have HUb := hide hub
            clear hbs hub hj htl
            obtain ⟨pbn, hpbn⟩ : ∃ x, x = pb.length := ⟨_, rfl⟩
            have HPbn := hide hpbn
            obtain ⟨abn, habn⟩ : ∃ x, x = ab.length := ⟨_, rfl⟩
            have HAbn := hide habn
            clear hpbn habn
            obtain ⟨wz, hwz⟩ : ∃ x : World, x = wr := ⟨_, rfl⟩
            have HWz := hide hwz
            rw [← hwz] at HOw HFr HBB HRD HI1
            rw [← hwz]
            clear hwz HWz
            go_upto_region 11 with (first
              | (go_at_call 101; refine HI1.out.mono ?_; clear HI1; rintro en1 w1 ⟨rfl, hs, hf⟩; have HS1 := hide hs; have HF1 := hide hf; have HB1 := hide (bytes_any g b (a + j) 0 1 w1 HS1.out); rw [show (1 : Int) = ((1 : Nat) : Int) from rfl, bS_ok (k := 1) (by have := HTl.out; omega), ← HDr.out, un_one hjt] at HB1; clear hs hf)
              | (go_at_call 52; refine HB1.out.mono ?_; clear HB1; rintro en1 w2 ⟨v2, rfl, hown, hs, hf⟩; have HO2 := hide hown; have HS2 := hide hs; have HF2 := hide (HF1.out.ts hf); have HEr := hide (err_any g b _ _ w2 hs); rw [show ([t.getD j 0] : List UInt8).length = 1 from rfl] at hown; obtain ⟨g2, c2, rfl, r1, r2, r3, r4⟩ := own_some hown (by omega); unfold maxLen at r2; have hw0 : w2.cell? ⟨g2, 0, none⟩ = some (.int .u8 (wb : Nat)) := (by obtain ⟨z1, _⟩ := hown.put (k := 0) (by omega); rw [z1]; simp [by8, HWB.out]); clear hown hs hf)
              | (go_at_call 50; refine HEr.out.mono ?_; rintro en1 wE ⟨rfl, rfl⟩))
            go_cut [12, 13] from 25 to 103 (fun s e wx => ∃ A4 c4, s = .slice A4 abn c4 ∧ abn ≤ c4 ∧ c4 ≤ maxLen ∧ e = .int .i64 ue ∧ Hid (Own wx wz.heap.size 79 1 (.slice A4 abn c4) abn (nz ab)) ∧ Hid (RD wx g b pl er) ∧ Hid (Fr (Is g) wz wx) ∧ wx.cell? ⟨g2, 0, none⟩ = some (.int .u8 (wb : Nat)))
            case first =>
              have HB2 := hide (fun W (h : RD W g b (a + j + 1) 0) => bytes_any g b (a + j + 1) 0 (sz : Nat) W h)
              rw [HBs.out] at HB2
              have hg2g : g2 ≠ g := by
                have := HS1.out.lt
                omega
              have HG2 := hide hg2g
              have hw0d : w2.drew.cell? ⟨g2, 0, none⟩ = some (.int .u8 (wb : Nat)) := hw0
              have hwr : IntKind.i64.wrap (wb : Int) = (wb : Int) := IntWalk.i64_in _ (by omega)
              have hwr2 : wrap64 (wb : Int) = (wb : Int) := IntWalk.wrap64_in _ (by omega)
              clear hg2g
              go_region_held3 (fun W => W.cell? ⟨g2, 0, none⟩ = some (.int .u8 (wb : Nat))) (first | exact hw4 | exact hw3 | exact hw0d | exact hw0) (first
                | (go_at_call 103; refine (HSz.out _).mono ?_; rintro en1 wS ⟨rfl, rfl⟩)
                | (go_at_call 52; refine (HB2.out w2.drew HS2.out).mono ?_; rintro en1 w3 ⟨v3, rfl, hown, hs, hf⟩; rw [← HPbn.out] at hown; have HS3 := hide hs; have HF3 : Hid (Fr (Is g) wz w3) := hide (HF2.out.drew.ts hf); obtain ⟨A3, c3, rfl, s1, s2, _⟩ := hown.form; have HUn := hide (unb_any A3 pbn c3 w3.heap.size (wb : Nat) (K : Nat) pb w3 HPbn.out.symm s1 s2 (Nat.le_refl _) hown.rd); rw [HUb.out] at HUn; have hw3 : w3.cell? ⟨g2, 0, none⟩ = some (.int .u8 (wb : Nat)) := hf.cell (p := ⟨g2, 0, none⟩) hw0d (fun e => HG2.out e); clear hown hs hf)
                | (go_at_call 102; refine HUn.out.mono ?_; rintro en1 w4 ⟨v4, rfl, hown, hf⟩; rw [← HAbn.out] at hown; obtain ⟨A4, c4, rfl, z1, z2, _⟩ := hown.form; have HA4 := hide (hown.lower HF3.out.size); have HS4 := hide (HS3.out.fr0 hf); have HF4 := hide (HF3.out.tr hf); have hw4 : w4.cell? ⟨g2, 0, none⟩ = some (.int .u8 (wb : Nat)) := hf.cell (p := ⟨g2, 0, none⟩) hw3 (fun h => h); clear hown hf))
              go_wp2
              go_meet
              case rel => exact ⟨A4, c4, rfl, z1, z2, rfl, HA4, HS4, HF4, hw4⟩
            case rest =>
              obtain ⟨A4, c4, rfl, z1, z2, rfl, HA4, HS4, HF4, hw4⟩ := hcut
              clear hw0 HEr
              have HQz2 := hide z2
              unfold maxLen at z2
              have hle := unzz_bd (dec_lt _ 0 0 u j (by decide) HDec.out)
              obtain ⟨le, hlee⟩ : ∃ x, x = unzz u := ⟨_, rfl⟩
              rw [← hlee] at hle
              rw [← hlee]
              have HLee := hide hlee
              clear hlee
              have HErr : Hid (∀ nq, Calls Tryz.prog 50 #[.pointer (some ⟨g, 0, none⟩)] (wc.drewN nq) (fun e w' => e = .returned (.int .i64 er) ∧ w' = wc.drewN nq)) := hide (fun nq => (err_any g b pl er (wc.drewN nq) (HS4.out.drewN nq)).mono fun _ _ ⟨p, q⟩ => ⟨p, q.symm⟩)
              have hbl : b.length = m := HL.out
              by_cases hsh : j + 1 + sz ≤ t.length
              · have hb1 := bS_ok (t := b) (a := a + j + 1) (k := sz) (by have := HTl.out; omega)
                rw [HBs.out] at hb1
                simp only [Prod.mk.injEq] at hb1
                obtain ⟨hpb, rfl, rfl⟩ := hb1
                have hpb2 : pb = (t.drop (j + 1)).take sz := by rw [HDr0.out, hpb, Nat.add_assoc]
                have hpl : pb.length = psz wb K := by rw [hpb2, List.length_take, List.length_drop, ← HSZ.out]; omega
                have hb0 : ((0 : Int) != 0) = false := rfl
                by_cases hlf : leftN pb wk = 0
                · have hU : unbitsZ pb (wb : Nat) (K : Nat) = (unpacked wb K pb, 0) := by
                    unfold unbitsZ
                    rw [if_neg (by omega), Int.toNat_natCast, Int.toNat_natCast, if_neg (by rw [← HWk.out]; exact fun h => h.elim (fun h => h hpl) (fun h => h hlf))]
                  rw [HUb.out] at hU
                  simp only [Prod.mk.injEq] at hU
                  obtain ⟨habe, rfl⟩ := hU
                  have hp := p_some (k := K) HDec.out (by omega) (by rw [← HWB.out]; exact hw64) (by rw [← HWB.out, ← HSZ.out]; exact hsh) (by rw [← HWB.out, ← HSZ.out, ← hpb2, ← HWk.out]; exact hlf)
                  rw [← HWB.out, ← HSZ.out, ← hpb2, ← habe, ← HLee.out] at hp
                  have habK : abn = K := by rw [HAbn.out, habe, unpacked_len]
                  have h64 : In64 ab := by rw [habe]; exact unpacked_64 hw64
                  subst habK
                  have HP := hide hp
                  have H64 := hide h64
                  have HWc : Hid (∀ nq, Calls Tryz.prog 98 #[.slice A4 abn c4] (wc.drewN nq) (fun e w' => e = .returned (.int .i64 (wid ab : Nat)) ∧ w' = wc.drewN nq)) := hide (fun nq => (width_any A4 abn c4 _ ab (wc.drewN nq) HAbn.out.symm h64 z1 HQz2.out (HA4.out.rd.fr0 ((Fr.refl No wc).drewN nq))).mono fun _ _ ⟨p, q⟩ => ⟨p, q.symm⟩)
                  have HMc : Hid (∀ nq, Calls Tryz.prog 104 #[.slice A4 abn c4] (wc.drewN nq) (fun e w' => e = .returned (.int .u64 (minL (zN ab))) ∧ w' = wc.drewN nq)) := hide (fun nq => (minU_any A4 abn c4 _ (zN ab) (wc.drewN nq) (by rw [zN_len]; exact HAbn.out.symm) hK1.1 z1 HQz2.out (HA4.out.rd.fr0 ((Fr.refl No wc).drewN nq))).mono fun _ _ ⟨p, q⟩ => ⟨p, q.symm⟩)
                  have hwr : IntKind.i64.wrap (wb : Int) = (wb : Int) := IntWalk.i64_in _ (by omega)
                  have hwr2 : wrap64 (wb : Int) = (wb : Int) := IntWalk.wrap64_in _ (by omega)
                  have hne : ab ≠ [] := fun e => by have := HAbn.out; rw [e] at this; simp at this; omega
                  have hm0 := minN_0 hne
                  have HNe := hide hne
                  clear hpb hpb2 hpl hlf habe hp h64 hne
                  by_cases hwd : wid ab = wb
                  · rw [hwd] at HWc
                    have hb3 : ((wb : Int) != (wb : Int)) = false := by simp
                    by_cases hmin : 0 ∈ ab
                    · rw [hm0.2 hmin] at HMc
                      have HWd := hide hwd
                      have HMin := hide hmin
                      clear hwd hmin hm0
                      go_wp2_with (fail)
                      go_quiet ((first
                        | (go_at_call 50; exact Calls.quiet_of_same (HErr.out _))
                        | (go_at_call 98; exact Calls.quiet_of_same (HWc.out _))
                        | (go_at_call 104; exact Calls.quiet_of_same (HMc.out _))))
                      go_wp2
                      obtain ⟨ys, hys⟩ : ∃ x, x = ab.map (fun (u : Nat) => le + (u : Int)) := ⟨_, rfl⟩
                      have hyl : ys.length = abn := by rw [hys, List.length_map]; exact HAbn.out.symm
                      have hst : ∀ q (h : q < abn), iz .i64 (xs ++ ys.take q) ++ [.int .i64 (le + ((ab.getD q 0 : Nat) : Int))] = iz .i64 (xs ++ ys.take (q + 1)) := fun q h => by
                        have h1 : q < ys.length := by rw [hyl]; exact h
                        have h2 : q < ab.length := by rw [← HAbn.out]; exact h
                        rw [take_snoc_int h1, iz_append, iz_append, iz_append, List.append_assoc]
                        congr 2
                        simp [iz, hys, List.getElem?_eq_getElem h2]
                      have HYs := hide hys
                      have HYl := hide hyl
                      have HSt := hide hst
                      clear hys hyl hst
                      have HWq := hide (HFr.out.own1 (HF4.out.drewN nq) hg)
                      go_loopw [7, 15, 16, 87] (fun l uu x i wx => ∃ q : Nat, q ≤ abn ∧ i = .int .i64 q ∧ Hid (∀ p, p < q → le + ((ab.getD p 0 : Nat) : Int) ≤ 9223372036854775807) ∧ Hid (Own wx w.heap.size 2 1 l (X + q) (iz .i64 (xs ++ ys.take q))) ∧ Hid (RD wx g b (a + j + 1 + sz) 0) ∧ Hid (Own wx wz.heap.size 79 1 (.slice A4 abn c4) abn (nz ab)) ∧ Hid (Fr No w wx)) (fun _ _ _ i _ => abn - (intOf i).toNat)
                      case atStart =>
                        refine ⟨0, by omega, rfl, hide (fun p h => by omega), hide ?_, hide (HS4.out.drewN nq), hide (HA4.out.fr0 ((Fr.refl No wc).drewN nq)), HWq⟩
                        rw [List.take_zero, List.append_nil]
                        exact (HOw.out.offRD HRD.out (by decide) HF4.out).fr0 ((Fr.refl No wc).drewN nq)
                      case round =>
                        obtain ⟨q, hq, rfl, HOv, HOx, HRx, HAx, HFx⟩ := hrel
                        by_cases hqK : q < abn
                        · obtain ⟨ad4, rfl, _, hcx⟩ := HAx.out.rd.natAt (j := q) (by rw [← HAbn.out]; exact hqK)
                          have hx64 := H64.out.at q
                          have HS := hide (HSt.out q hqK)
                          have HBd := hide (fun (h : ab.getD q 0 ≤ 0 ∨ True) => h)
                          obtain ⟨x, hx⟩ : ∃ x, x = ab.getD q 0 := ⟨_, rfl⟩
                          rw [← hx] at hcx hx64 HS
                          have HX' := hide hx
                          clear hx
                          by_cases hov : le + (x : Int) ≤ 9223372036854775807
                          · have hyv : wrap64 (IntKind.u64.wrap (IntKind.u64.wrap le + (x : Int))) = le + (x : Int) := by
                              rw [IntKind.wrap_u64, IntKind.wrap_u64]
                              unfold wrap64
                              omega
                            have hge : le ≤ le + (x : Int) := by omega
                            have HNv : Hid (∀ p, p < q + 1 → le + ((ab.getD p 0 : Nat) : Int) ≤ 9223372036854775807) := hide (fun p h => by
                              by_cases e : p = q
                              · rw [e, ← HX'.out]; exact hov
                              · exact HOv.out p (by omega))
                            obtain ⟨y, hy⟩ : ∃ y, y = le + (x : Int) := ⟨_, rfl⟩
                            rw [← hy] at hyv hge HS
                            clear hy hov
                            have hgx := HFx.out.size
                            have HSr := hide (Src.one (P := Tryz.prog) wr (e := 2) Tryz.underlying41 (.int .i64 y) rfl)
                            have HOx' := hide (HOx.out.fr0 ((Fr.refl No wr).alloc (.cells #[.int .i64 y] 2)))
                            have b1 : (X + q + 1) * 8 ≤ 140737488355328 := by omega
                            have b2 : X + q + 1 ≤ maxLen := by unfold maxLen; omega
                            have b3 : w.heap.size ≤ (wr.alloc (.cells #[.int .i64 y] 2)).heap.size := by simp; omega
                            go_wp2_with (first
                              | (at_builtin; refine wpList_append_gen _ rfl (.tmp 99) (.tmp 101) 41 41 rfl w.heap.size 2 i0 (.int .i64 0) 1 8 Tryz.underlying41 hi0 iz0 isz iby rfl u7 (X + q) (iz .i64 (xs ++ ys.take q)) rfl HOx'.out _ 1 [.int .i64 y] rfl HSr.out b1 b2 b3 ?_; intro v5 w5 hown hfr hat; have HF5 : Hid (Fr No w w5) := hide ((HFx.out.alloc _).own hfr (fun g hg => .inl (HOx.out.lt g hg).1)); have HO5 : Hid (Own w5 w.heap.size 2 1 v5 (X + q + 1) (iz .i64 (xs ++ ys.take (q + 1)))) := hide (by rw [← HS.out]; exact hown); have HR5 := hide ((HRx.out.fr0 ((Fr.refl No wr).alloc (.cells #[.int .i64 y] 2))).off HOx'.out (by decide) (by decide) hfr); have HA5 := hide ((HAx.out.fr0 ((Fr.refl No wr).alloc (.cells #[.int .i64 y] 2))).fr hfr (fun k hk e => HAx.out.apart HOx.out (by decide) k hk e)); clear hown hfr hat))
                            go_roundw
                            case rel => exact ⟨q + 1, by omega, by go_num, HNv, by rw [← Nat.add_assoc]; exact HO5, HR5, HA5, HF5⟩
                            case measure => simp [intOf]; omega
                          · have hyv : wrap64 (IntKind.u64.wrap (IntKind.u64.wrap le + (x : Int))) = le + (x : Int) - 18446744073709551616 := by
                              rw [IntKind.wrap_u64, IntKind.wrap_u64]
                              unfold wrap64
                              omega
                            have hgt : le + (x : Int) - 18446744073709551616 < le := by omega
                            have HN := hide (b_bad HP.out (fun hok => hov (hok.2.2 x (by
                              rw [HX'.out]
                              have h2 : q < ab.length := by rw [← HAbn.out]; exact hqK
                              rw [List.getD_eq_getElem?_getD, List.getElem?_eq_getElem h2]
                              exact List.getElem_mem h2))))
                            obtain ⟨y, hy⟩ : ∃ y, y = le + (x : Int) - 18446744073709551616 := ⟨_, rfl⟩
                            rw [← hy] at hyv hgt
                            clear hy hov
                            go_wp2
                            go_ret3
                            exact HBad2.out _ _ rfl HFx.out HN
                        · obtain rfl : q = abn := by omega
                          have hok : blkOk le wb ab := ⟨HWd.out, HMin.out, fun u hu => by
                            obtain ⟨p, hp, rfl⟩ := List.getElem_of_mem hu
                            have h2 := HOv.out p (by rw [HAbn.out]; exact hp)
                            rwa [List.getD_eq_getElem?_getD, List.getElem?_eq_getElem hp] at h2⟩
                          have hbk : blkB t q = some (ys, j + 1 + sz) := by rw [b_some HP.out hok, HYs.out]
                          have hms : Mid b N (xs ++ ys) (a + (j + 1 + sz)) := by
                            rw [HK.out, HTd.out] at hbk
                            rw [show N - X = N - xs.length by rw [HX.out]] at hbk
                            exact (HMid.out.step (by rw [HX.out]; exact hlt) hbk).1
                          have HMs := hide hms
                          have HO6 := HOx.out
                          rw [List.take_of_length_le (Nat.le_of_eq HYl.out)] at HO6
                          have HO7 := hide HO6
                          have HR7 := HRx.out
                          rw [show a + j + 1 + sz = a + (j + 1 + sz) by omega] at HR7
                          have HR8 := hide HR7
                          clear hok hbk hms HO6 HR7
                          go_wp2
                          go_roundg (gk - q)
                          case measure => omega
                          case rel => exact ⟨xs ++ ys, X + q, a + (j + 1 + sz), by omega, hide (by rw [List.length_append, HX.out, HYl.out]), HR8, HMs, HO7, HFx⟩
                    · have hb4 : (minL (zN ab) != 0) = true := bne_iff_ne.2 (fun h => hmin (hm0.1 h))
                      have HN := hide (b_bad HP.out (fun hok => hmin hok.2.1))
                      clear hwd hmin hm0
                      generalize minL (zN ab) = mn at HMc hb4
                      go_wp2_with (fail)
                      go_quiet ((first
                        | (go_at_call 50; exact Calls.quiet_of_same (HErr.out _))
                        | (go_at_call 98; exact Calls.quiet_of_same (HWc.out _))
                        | (go_at_call 104; exact Calls.quiet_of_same (HMc.out _))))
                      go_wp2
                      go_ret3
                      exact HBB.out _ _ rfl (HF4.out.drewN _) HN
                  · have hb3 : (((wid ab : Nat) : Int) != (wb : Int)) = true := bne_iff_ne.2 (fun h => hwd (Int.ofNat_inj.1 h))
                    have HN := hide (b_bad HP.out (fun hok => hwd hok.1))
                    clear hwd hm0
                    generalize wid ab = wa at HWc hb3
                    go_wp2_with (fail)
                    go_quiet ((first
                      | (go_at_call 50; exact Calls.quiet_of_same (HErr.out _))
                      | (go_at_call 98; exact Calls.quiet_of_same (HWc.out _))))
                    go_wp2
                    go_ret3
                    exact HBB.out _ _ rfl (HF4.out.drewN _) HN
                · have hU : unbitsZ pb (wb : Nat) (K : Nat) = ([], 20) := by
                    unfold unbitsZ
                    rw [if_neg (by omega), Int.toNat_natCast, Int.toNat_natCast, if_pos (.inr (by rw [← HWk.out]; exact hlf))]
                  rw [HUb.out] at hU
                  simp only [Prod.mk.injEq] at hU
                  obtain ⟨habe, rfl⟩ := hU
                  have HN := hide (b_none (p_left HDec.out (by omega) (by rw [← HWB.out]; exact hw64) (by rw [← HWB.out, ← HSZ.out]; exact hsh) (by rw [← HWB.out, ← HSZ.out, ← hpb2, ← HWk.out]; exact hlf) : parseB t K = none))
                  have hb2 : ((20 : Int) != 0) = true := by decide
                  clear hpb hpb2 hpl hlf habe
                  go_wp2_with (fail)
                  go_quiet ((first | (go_at_call 50; exact Calls.quiet_of_same (HErr.out _))))
                  go_wp2
                  go_ret3
                  exact HBB.out _ _ rfl (HF4.out.drewN _) HN
              · have hb1 := bS_bad (t := b) (a := a + j + 1) (k := sz) (by have := HTl.out; omega) (by have := HTl.out; omega)
                rw [HBs.out] at hb1
                simp only [Prod.mk.injEq] at hb1
                obtain ⟨hpb, rfl, rfl⟩ := hb1
                have HN := hide (b_none (p_short HDec.out (by omega) (by rw [← HWB.out]; exact hw64) (by rw [← HWB.out, ← HSZ.out]; exact hsh) : parseB t K = none))
                have hb0 : ((20 : Int) != 0) = true := by decide
                clear hpb hsh
                go_wp2_with (fail)
                go_quiet ((first | (go_at_call 50; exact Calls.quiet_of_same (HErr.out _))))
                go_wp2
                go_ret3
                exact HBB.out _ _ rfl (HF4.out.drewN _) HN
          · have HN := hide (b_none (p_wide HDec.out hjt (by rw [← HWB.out]; exact hw64) : parseB t K = none))
            have hw65 : 64 < wb := by omega
            clear hw64 hj htl
            go_wp2_with (first
              | (go_at_call 101; refine HI1.out.mono ?_; clear HI1; rintro en1 w1 ⟨rfl, hs, hf⟩; have HS1 := hide hs; have HF1 := hide hf; have HB1 := hide (bytes_any g b (a + j) 0 1 w1 HS1.out); rw [show (1 : Int) = ((1 : Nat) : Int) from rfl, bS_ok (k := 1) (by have := HTl.out; omega), ← HDr.out, un_one hjt] at HB1; clear hs hf)
              | (go_at_call 52; refine HB1.out.mono ?_; clear HB1; rintro en1 w2 ⟨v2, rfl, hown, hs, hf⟩; have HO2 := hide hown; have HS2 := hide hs; have HF2 := hide (HF1.out.ts hf); have HEr := hide (err_any g b _ _ w2 hs); rw [show ([t.getD j 0] : List UInt8).length = 1 from rfl] at hown; obtain ⟨g2, c2, rfl, r1, r2, r3, r4⟩ := own_some hown (by omega); unfold maxLen at r2; have hw0 : w2.cell? ⟨g2, 0, none⟩ = some (.int .u8 (wb : Nat)) := (by obtain ⟨z1, _⟩ := hown.put (k := 0) (by omega); rw [z1]; simp [by8, HWB.out]); clear hown hs hf)
              | (go_at_call 50; refine HEr.out.mono ?_; rintro en1 wE ⟨rfl, rfl⟩))
            go_ret3
            exact HBB.out _ _ rfl HF2.out HN
        · have HN := hide (b_none (p_end HDec.out hjt : parseB t K = none))
          go_wp2_with (first
            | (go_at_call 101; refine HI1.out.mono ?_; clear HI1; rintro en1 w1 ⟨rfl, hs, hf⟩; have HS1 := hide hs; have HF1 := hide hf; have HB1 := hide (bytes_any g b (a + j) 0 1 w1 HS1.out); rw [show (1 : Int) = ((1 : Nat) : Int) from rfl, bS_bad (k := 1) (by omega) (by omega)] at HB1; clear hs hf)
            | (go_at_call 52; refine HB1.out.mono ?_; clear HB1; rintro en1 w2 ⟨v2, rfl, hown, hs, hf⟩; have HO2 := hide hown; have HS2 := hide hs; have HF2 := hide (HF1.out.ts hf); have HEr := hide (err_any g b _ _ w2 hs); obtain ⟨A2, c2, rfl, _⟩ := hown.form; clear hown hs hf)
            | (go_at_call 50; refine HEr.out.mono ?_; rintro en1 wE ⟨rfl, rfl⟩))
          go_ret3
          exact HBB.out _ _ rfl HF2.out HN
    · obtain rfl : X = N := by have := HMid.out.1; rw [HX.out] at this; omega
      have HD := hide (HMid.out.done HX.out hN)
      have hal : a ≤ b.length := HMid.out.2.2.1
      have HLe := hide (left_any g b a 0 wr HRD.out)
      have HCl := hide (clipI_any Al X cl wr ql1 HQl2.out)
      rw [HL.out] at HLe hal
      obtain ⟨z, hz⟩ : ∃ z, z = m - a := ⟨_, rfl⟩
      have hz2 : (m : Int) - (z : Int) = (a : Int) := by omega
      rw [← hz] at HLe
      clear hlt hz
      go_wp2_with (first
        | (go_at_call 105; refine HCl.out.mono ?_; rintro en1 w1 ⟨rfl, rfl⟩)
        | (go_at_call 53; refine HLe.out.mono ?_; rintro en1 w1 ⟨rfl, nq, rfl⟩))
      go_ret3
      refine ⟨.slice Al X X, ?_, ?_, HFr.out.drewN _⟩
      · rw [HRes.out, HD.out]
        rfl
      · rw [HRes.out, HD.out, HX.out]
        exact HOw.out.clip.fr0 ((Fr.refl No _).drewN _)
theorem get_any (A : Option Addr) (m c B : Nat) (ni : Int) (b : List UInt8) (w : World) (hl : b.length = m) (hm : m ≤ 140737488355328) (hn : m ≤ c) (hc : c ≤ maxLen) (hB : B ≤ w.heap.size) (hr : Rd w B A (by8 b)) :
    Calls Tryz.prog 68 #[.slice A m c, .int .i64 ni] w (GivesGetP (getZ b ni) w) := by
  by_cases h : ni < 0 ∨ 1048576 < ni
  · rw [getZ_arg b h]
    exact (get_arg A m c ni w h).mono fun e w' ⟨h1, h2⟩ => ⟨_, h1, Own.nil _ _ _ _, h2 ▸ Fr.refl _ _⟩
  · obtain ⟨N, rfl⟩ := Int.eq_ofNat_of_zero_le (a := ni) (by omega)
    exact get_in A m c B N b w hl hm hn hc (by omega) hB hr
end Go.Proofs.YtnjcncidlhllmaaGreat
namespace Go.Proofs.YtnjcncidlhllmaaGreat
set_option linter.unusedVariables false
set_option linter.unusedSimpArgs false
open Go.RowKit

/-! Size -/
def sizeR (bs : List UInt8) (most : Int) : Option (Nat × Nat) :=
  match dec 0 0 bs with
  | none => none
  | some (u, k) => if most < 0 ∨ most < (u : Int) then none else some (u, k)

def sizeV : Option (Nat × Nat) → Value
  | none => .tuple #[.int .i64 0, .int .i64 (-1)]
  | some (u, k) => .tuple #[.int .i64 u, .int .i64 k]

theorem sizeR_none {bs : List UInt8} {most : Int} (hd : dec 0 0 bs = none) : sizeR bs most = none := by unfold sizeR; rw [hd]

theorem sizeR_no {bs : List UInt8} {most : Int} {u k : Nat} (hd : dec 0 0 bs = some (u, k)) (h : most < 0 ∨ most < (u : Int)) : sizeR bs most = none := by
  unfold sizeR; rw [hd]; exact if_pos h

theorem sizeR_ok {bs : List UInt8} {most : Int} {u k : Nat} (hd : dec 0 0 bs = some (u, k)) (h : ¬ (most < 0 ∨ most < (u : Int))) : sizeR bs most = some (u, k) := by
  unfold sizeR; rw [hd]; exact if_neg h

def sizeS (bs : List UInt8) (a : Nat) (e most : Int) : Nat × Nat × Int :=
  if e = 0 then (match sizeR (bs.drop a) most with | none => (0, a, 20) | some (u, k) => (u, a + k, 0)) else (0, a, e)

theorem sizeR_le {bs : List UInt8} {most : Int} {u k : Nat} (h : sizeR bs most = some (u, k)) : k ≤ bs.length := by
  cases hd : dec 0 0 bs with
  | none => rw [sizeR_none hd] at h; cases h
  | some x =>
    obtain ⟨u', j⟩ := x
    have hk := dec_le _ _ _ _ _ hd
    by_cases hb : most < 0 ∨ most < (u' : Int)
    · rw [sizeR_no hd hb] at h; cases h
    · rw [sizeR_ok hd hb] at h
      injection h with h
      injection h with _ h
      omega

end Go.Proofs.YtnjcncidlhllmaaGreat
