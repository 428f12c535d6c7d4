/- Get's rounds, in plain Lean. -/
import Derived.Test.YtpnhnnhocekchaaPackR
import Derived.Test.YtpnhnnhocekchaaBytesP
import Derived.Test.YtpnhnnhocekchaaTakeU
namespace Go.Proofs.Ytpnhnnhocekchaa
set_option linter.unusedVariables false
set_option linter.unusedSimpArgs false
open Go.RowKit

/-- so much is read: the rest of the row decides. -/
def Mid (b : List UInt8) (N : Nat) (xs : List Int) (a : Nat) : Prop := xs.length ≤ N ∧ InI xs ∧ a ≤ b.length ∧ getF N b 0 N = (getF (N - xs.length) b a (N - xs.length)).map fun r => (xs ++ r.1, r.2)
theorem Mid.start (b : List UInt8) (N : Nat) : Mid b N [] 0 := by
  refine ⟨Nat.zero_le _, (fun x h => by cases h), Nat.zero_le _, ?_⟩
  simp
theorem Mid.step {b : List UInt8} {N : Nat} {xs : List Int} {a : Nat} (h : Mid b N xs a) (hlt : xs.length < N) {x : List Int} {m : Nat} (hb : blkB (b.drop a) (min (N - xs.length) 128) = some (x, m)) : Mid b N (xs ++ x) (a + m) ∧ x.length = min (N - xs.length) 128 := by
  obtain ⟨h1, h2, h3, h4⟩ := h
  obtain ⟨q1, q2, q3, q4, q5⟩ := blk_parts hb
  rw [List.length_drop] at q4
  refine ⟨⟨by rw [List.length_append]; omega, ?_, by omega, ?_⟩, q1⟩
  · intro y hy
    rcases List.mem_append.1 hy with hy | hy
    · exact h2 y hy
    · exact q2 y hy
  · rw [h4]
    obtain ⟨f, hf⟩ : ∃ f, N - xs.length = f + 1 := ⟨N - xs.length - 1, by omega⟩
    rw [hf] at hb ⊢
    rw [getF, if_neg (by omega), hb]
    dsimp only
    rw [Option.map_map]
    have e : f + 1 - min (f + 1) 128 = N - (xs ++ x).length := by
      rw [List.length_append, q1, hf]
      omega
    rw [e, getF_fuel f (N - (xs ++ x).length) b (a + m) (N - (xs ++ x).length) (by rw [List.length_append, q1, hf]; omega) (Nat.le_refl _)]
    congr 1
    funext r
    simp
theorem Mid.bad {b : List UInt8} {N : Nat} {xs : List Int} {a : Nat} (h : Mid b N xs a) (hlt : xs.length < N) (hb : blkB (b.drop a) (min (N - xs.length) 128) = none) (hN : N ≤ 1048576) : getZ b N = ([], 0, 20) := by
  obtain ⟨h1, h2, h3, h4⟩ := h
  unfold getZ
  rw [if_neg (by omega), Int.toNat_natCast, h4]
  obtain ⟨f, hf⟩ : ∃ f, N - xs.length = f + 1 := ⟨N - xs.length - 1, by omega⟩
  rw [hf] at hb ⊢
  rw [getF, if_neg (by omega), hb]
  rfl
theorem Mid.done {b : List UInt8} {N : Nat} {xs : List Int} {a : Nat} (h : Mid b N xs a) (hlt : xs.length = N) (hN : N ≤ 1048576) : getZ b N = (xs, a, 0) := by
  obtain ⟨h1, h2, h3, h4⟩ := h
  unfold getZ
  rw [if_neg (by omega), Int.toNat_natCast, h4, hlt, Nat.sub_self]
  simp [getF]
theorem getZ_arg (b : List UInt8) {n : Int} (h : n < 0 ∨ 1048576 < n) : getZ b n = ([], 0, 1) := if_pos h

/-! How a block can be no block. -/
theorem p_none {t : List UInt8} {k : Nat} (h : dec 0 0 t = none) : parseB t k = none := by unfold parseB; rw [h]
theorem p_end {t : List UInt8} {k u j : Nat} (h : dec 0 0 t = some (u, j)) (hj : ¬ j < t.length) : parseB t k = none := by unfold parseB; rw [h]; dsimp only; rw [if_neg hj]
theorem p_wide {t : List UInt8} {k u j : Nat} (h : dec 0 0 t = some (u, j)) (hj : j < t.length) (hw : ¬ (t.getD j 0).toNat ≤ 64) : parseB t k = none := by unfold parseB; rw [h]; dsimp only; rw [if_pos hj, if_neg hw]
theorem p_short {t : List UInt8} {k u j : Nat} (h : dec 0 0 t = some (u, j)) (hj : j < t.length) (hw : (t.getD j 0).toNat ≤ 64) (hs : ¬ j + 1 + psz (t.getD j 0).toNat k ≤ t.length) : parseB t k = none := by unfold parseB; rw [h]; dsimp only; rw [if_pos hj, if_pos hw, if_neg hs]
theorem p_left {t : List UInt8} {k u j : Nat} (h : dec 0 0 t = some (u, j)) (hj : j < t.length) (hw : (t.getD j 0).toNat ≤ 64) (hs : j + 1 + psz (t.getD j 0).toNat k ≤ t.length) (hl : leftN ((t.drop (j + 1)).take (psz (t.getD j 0).toNat k)) ((t.getD j 0).toNat * k) ≠ 0) : parseB t k = none := by unfold parseB; rw [h]; dsimp only; rw [if_pos hj, if_pos hw, if_pos hs, if_neg hl]
theorem p_some {t : List UInt8} {k u j : Nat} (h : dec 0 0 t = some (u, j)) (hj : j < t.length) (hw : (t.getD j 0).toNat ≤ 64) (hs : j + 1 + psz (t.getD j 0).toNat k ≤ t.length) (hl : leftN ((t.drop (j + 1)).take (psz (t.getD j 0).toNat k)) ((t.getD j 0).toNat * k) = 0) :
    parseB t k = some (unzz u, (t.getD j 0).toNat, unpacked (t.getD j 0).toNat k ((t.drop (j + 1)).take (psz (t.getD j 0).toNat k)), j + 1 + psz (t.getD j 0).toNat k) := by unfold parseB; rw [h]; dsimp only; rw [if_pos hj, if_pos hw, if_pos hs, if_pos hl]
theorem b_none {t : List UInt8} {k : Nat} (h : parseB t k = none) : blkB t k = none := by unfold blkB; rw [h]
theorem b_bad {t : List UInt8} {k : Nat} {le : Int} {w : Nat} {ab : List Nat} {m : Nat} (h : parseB t k = some (le, w, ab, m)) (hb : ¬ blkOk le w ab) : blkB t k = none := by unfold blkB; rw [h]; dsimp only; rw [if_neg hb]
theorem b_some {t : List UInt8} {k : Nat} {le : Int} {w : Nat} {ab : List Nat} {m : Nat} (h : parseB t k = some (le, w, ab, m)) (hb : blkOk le w ab) : blkB t k = some (ab.map (fun (u : Nat) => le + (u : Int)), m) := by unfold blkB; rw [h]; dsimp only; rw [if_pos hb]
theorem un_one {t : List UInt8} {j : Nat} (h : j < t.length) : (t.drop j).take 1 = [t.getD j 0] := by
  rw [List.drop_eq_getElem_cons h, List.getD_eq_getElem?_getD, List.getElem?_eq_getElem h]
  rfl
/-- reading bytes. -/
theorem bS_off (t : List UInt8) (a : Nat) (e x : Int) (h : e ≠ 0) : bytesS t a e x = ([], a, e) := if_neg h
theorem bS_ok {t : List UInt8} {a k : Nat} (h : a + k ≤ t.length) : bytesS t a 0 (k : Nat) = ((t.drop a).take k, a + k, 0) := by
  unfold bytesS
  rw [if_pos rfl]
  unfold bytesR
  rw [if_neg (by rw [List.length_drop]; omega)]
  rfl
theorem bS_bad {t : List UInt8} {a k : Nat} (ha : a ≤ t.length) (h : ¬ a + k ≤ t.length) : bytesS t a 0 (k : Nat) = ([], a, 20) := by
  unfold bytesS
  rw [if_pos rfl]
  unfold bytesR
  rw [if_pos (by rw [List.length_drop]; omega)]
end Go.Proofs.Ytpnhnnhocekchaa
