/- Lists of bytes that share no memory: a whole row of them. -/
import Derived.Test.YtapfbjaopbcgjaaDoorVals
import Derived.Test.YtapfbjaopbcgjaaDoorApart8
namespace Go.Proofs.YtapfbjaopbcgjaaDoor
set_option linter.unusedVariables false
set_option linter.unusedSimpArgs false
open Go.RowKit

def vA : Value → Option Addr | .slice a _ _ => a | _ => none
def vN : Value → Nat | .slice _ n _ => n | _ => 0
def vC : Value → Nat | .slice _ _ c => c | _ => 0

set_option maxRecDepth 100000 in
set_option maxHeartbeats 800000 in
theorem apart8_nil (w : World) : Calls Tryd.prog 42 #[.slice none 0 0] w (RetB true w) := by
  go_enter Tryd.func42, Tryd.ntmps42
  go_wp2
  go_loop [3] (fun i => i = .int .i64 0) (fun _ => 0)
  case atStart => rfl
  case round =>
    subst hrel
    go_wp2
    go_loop [6] (fun i => i = .int .i64 0) (fun _ => 0)
    case atStart => rfl
    case round =>
      subst hrel
      go_wp2
      go_loop [9] (fun i => i = .int .i64 0) (fun _ => 0)
      case atStart => rfl
      case round =>
        subst hrel
        go_wp2
        go_ret
        exact ⟨rfl, Fr.refl _ _⟩

theorem Vals.append {w : World} {b b1 b2 : Nat} {v1 v2 : List Value} {s1 s2 : List (List UInt8)} (h1 : Vals w b1 v1 s1) (h2 : Vals w b2 v2 s2) (hlt : ∀ (j : Nat) v, v1[j]? = some v → ∀ k, v.ownBlock = some k → k < b2) (hb1 : b ≤ b1) (hb2 : b ≤ b2) : Vals w b (v1 ++ v2) (s1 ++ s2) := by
  have hl := h1.len
  refine ⟨by simp [hl, h2.len], ?_, ?_⟩
  · intro j v bs hv hb
    by_cases hj : j < v1.length
    · rw [List.getElem?_append_left hj] at hv
      rw [List.getElem?_append_left (by omega)] at hb
      exact (h1.own j v bs hv hb).lower hb1
    · rw [List.getElem?_append_right (by omega)] at hv
      rw [List.getElem?_append_right (by omega), ← hl] at hb
      exact (h2.own _ v bs hv hb).lower hb2
  · intro i j vi vj hij hi hj k hk
    by_cases hj1 : j < v1.length
    · rw [List.getElem?_append_left (by omega)] at hi
      rw [List.getElem?_append_left hj1] at hj
      exact h1.dis i j vi vj hij hi hj k hk
    · rw [List.getElem?_append_right (by omega)] at hj
      by_cases hi1 : i < v1.length
      · rw [List.getElem?_append_left hi1] at hi
        intro h
        obtain ⟨_, _, ho⟩ := h2.get hj
        have := (ho.lt k h).1
        have := hlt i vi hi k hk
        omega
      · rw [List.getElem?_append_right (by omega)] at hi
        exact h2.dis _ _ vi vj (by omega) hi hj k hk

theorem apart8_vals (A : Option Addr) (n c base : Nat) (vals : List Value) (bss : List (List UInt8)) (W : World) (o : Own W base 50 1 (.slice A n c) n vals) (V : Vals W base vals bss) (hn : n ≤ 100000) (hb : ∀ b ∈ bss, b.length ≤ 140737488350000) :
    Calls Tryd.prog 42 #[.slice A n c] W (fun en w' => en = .returned (.bool true) ∧ Fr (fun k => ∃ (j : Nat) (v : Value), vals[j]? = some v ∧ v.ownBlock = some k) W w') := by
  have hvl := o.1
  rw [Nat.mul_one] at hvl
  obtain ⟨_, A', c', hv, h1, h2, hA⟩ := o
  injection hv with e1 e2 e3
  subst e1; subst e3
  rcases hA with ⟨rfl, rfl⟩ | ⟨g, cur, rfl, _, hh, hcs, ht⟩
  · obtain rfl : n = 0 := by omega
    exact (apart8_nil W).mono fun en w' ⟨he, hf⟩ => ⟨he, hf.any _⟩
  · have hget : ∀ j, j < n → ∃ v bs, vals[j]? = some v ∧ bss[j]? = some bs ∧ v = .slice (vA v) (vN v) (vC v) ∧ vN v = bs.length ∧ Own W base 5 1 (.slice (vA v) (vN v) (vC v)) (vN v) (by8 bs) := by
      intro j hj
      have hv : vals[j]? = some (vals[j]'(by omega)) := List.getElem?_eq_getElem _
      obtain ⟨bs, hbs, ho⟩ := V.get hv
      obtain ⟨A2, c2, e, _⟩ := ho.form
      refine ⟨_, bs, hv, hbs, ?_, ?_, ?_⟩
      · rw [e]; rfl
      · rw [e]; rfl
      · rw [e] at ho ⊢; exact ho
    have hcell : ∀ j, j < n → cur[j]? = some (.slice (vA (vals.getD j (.slice none 0 0))) (vN (vals.getD j (.slice none 0 0))) (vC (vals.getD j (.slice none 0 0)))) := by
      intro j hj
      obtain ⟨v, bs, hv, _, e, _⟩ := hget j hj
      have h3 : vals.getD j (.slice none 0 0) = v := by simp [hv]
      rw [h3, ← e, ← hv, ← ht, List.getElem?_take, if_pos (by omega)]
      simp
    refine (apart8_any g n c (fun j => vA (vals.getD j (.slice none 0 0))) (fun j => vN (vals.getD j (.slice none 0 0))) (fun j => vC (vals.getD j (.slice none 0 0))) cur W base (fun j => by8 (bss.getD j [])) hn ?_ h1 h2 hh hcell ?_ ⟨?_⟩).mono ?_
    · intro j hj
      obtain ⟨v, bs, hv, hbs, _, e2, _⟩ := hget j hj
      have h3 : vals.getD j (.slice none 0 0) = v := by simp [hv]
      show vN (vals.getD j (.slice none 0 0)) ≤ _
      rw [h3, e2]
      exact hb bs (List.mem_of_getElem? hbs)
    · intro j hj
      obtain ⟨v, bs, hv, hbs, _, _, ho⟩ := hget j hj
      have h3 : vals.getD j (.slice none 0 0) = v := by simp [hv]
      have h4 : bss.getD j [] = bs := by simp [hbs]
      show Own W base _ 1 (.slice (vA (vals.getD j (.slice none 0 0))) (vN (vals.getD j (.slice none 0 0))) (vC (vals.getD j (.slice none 0 0)))) (vN (vals.getD j (.slice none 0 0))) (by8 (bss.getD j []))
      rw [h3, h4]
      exact ho
    · intro i j hi hj hij k hk
      obtain ⟨vi, _, hvi, _, ei, _⟩ := hget i hi
      obtain ⟨vj, _, hvj, _, ej, _⟩ := hget j hj
      have h3 : vals.getD i (.slice none 0 0) = vi := by simp [hvi]
      have h4 : vals.getD j (.slice none 0 0) = vj := by simp [hvj]
      simp only [h3, h4, ← ei, ← ej] at hk ⊢
      rcases Nat.lt_or_gt_of_ne hij with h | h
      · exact V.dis i j vi vj h hvi hvj k hk
      · exact fun e => V.dis j i vj vi h hvj hvi k e hk
    · rintro en w' ⟨he, hf⟩
      refine ⟨he, hf.mono ?_⟩
      rintro k _ ⟨j, hj, hk⟩
      obtain ⟨v, _, hv, _, e, _⟩ := hget j hj
      have h3 : vals.getD j (.slice none 0 0) = v := by simp [hv]
      simp only [h3, ← e] at hk
      exact ⟨j, v, hv, hk⟩
end Go.Proofs.YtapfbjaopbcgjaaDoor
