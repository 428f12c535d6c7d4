/- Build of terms that are written out. -/
import Derived.Test.YtcdhbdhhknlbaaaK9
import Derived.Test.YtcdhbdhhknlbaaaTKnownPZ
namespace Go.Proofs.Ytcdhbdhhknlbaaa
set_option linter.unusedVariables false
set_option linter.unusedSimpArgs false
open Go.RowKit

theorem build_lit (w : World) (cs ds : Array Value) (l : List Tx) (vs : List Nat) (n m : Nat) (hc : cs.toList = svs l) (hd : ds.toList = un vs) (hn : l.length = n) (hm : vs.length = m) (hn2 : n ≤ 1000) (hm2 : m ≤ 1000) (ht : ∀ t ∈ l, t.length ≤ maxLen) (hu : U64s vs) :
    Calls Try.prog 13 #[.slice (some ⟨w.heap.size, 0, none⟩) n n, .slice (some ⟨w.heap.size + 1, 0, none⟩) m m] ((w.alloc (.cells cs 9)).alloc (.cells ds 40)) (BuildP ((w.alloc (.cells cs 9)).alloc (.cells ds 40)) l vs) := by
  have r1 := (Rd.block (heap_alloc_new w (.cells cs 9))).fr0 ((Fr.refl No _).alloc (.cells ds 40))
  have r2 := Rd.block (heap_alloc_new (w.alloc (.cells cs 9)) (.cells ds 40))
  rw [hc] at r1
  rw [hd, show (w.alloc (.cells cs 9)).heap.size = w.heap.size + 1 by simp] at r2
  exact tbuild_any _ _ n m n m (w.heap.size + 2) l vs _ hn (Nat.le_refl _) (by unfold maxLen; omega) hm (Nat.le_refl _) (by unfold maxLen; omega) (by simp) (r1.more (by omega)) r2 ht hu
theorem build_lit1 (w : World) (cs : Array Value) (l : List Tx) (n : Nat) (hc : cs.toList = svs l) (hn : l.length = n) (hn2 : n ≤ 1000) (ht : ∀ t ∈ l, t.length ≤ maxLen) :
    Calls Try.prog 13 #[.slice (some ⟨w.heap.size, 0, none⟩) n n, .slice none 0 0] (w.alloc (.cells cs 9)) (BuildP (w.alloc (.cells cs 9)) l []) := by
  have r1 := Rd.block (heap_alloc_new w (.cells cs 9))
  rw [hc] at r1
  exact tbuild_any _ _ n 0 n 0 (w.heap.size + 1) l [] _ hn (Nat.le_refl _) (by unfold maxLen; omega) rfl (Nat.le_refl _) (Nat.zero_le _) (by simp) r1 (Rd.nil _ _ _) ht (fun v hv => nomatch hv)
theorem build_nil (w : World) : Calls Try.prog 13 #[.slice none 0 0, .slice none 0 0] w (BuildP w [] []) :=
  tbuild_any none none 0 0 0 0 0 [] [] w rfl (Nat.le_refl _) (Nat.zero_le _) rfl (Nat.le_refl _) (Nat.zero_le _) (Nat.zero_le _) (Rd.nil _ _ _) (Rd.nil _ _ _) (fun t ht => nomatch ht) (fun v hv => nomatch hv)
/-- Build refuses, accepts. -/
theorem build_no {w w' : World} {l : List Tx} {vs : List Nat} {en : Ending} (h : BuildP w l vs en w') (hn : ¬ termsOk l vs) : en = .returned (.tuple #[.slice none 0 0, .int .i64 1]) ∧ Fr No w w' := by
  obtain ⟨h1, (⟨h2, _⟩ | ⟨_, h3⟩)⟩ := h
  · exact absurd h2 hn
  · exact ⟨h3, h1⟩
theorem build_yes {w w' : World} {l : List Tx} {vs : List Nat} {en : Ending} (h : BuildP w l vs en w') (hn : termsOk l vs) : ∃ A m, m = (dictB l vs).length ∧ en = .returned (.tuple #[.slice A m m, .int .i64 0]) ∧ Own w' w.heap.size 5 1 (.slice A m m) m (by8 (dictB l vs)) ∧ Fr No w w' := by
  obtain ⟨h1, (⟨h2, A, m, h3, h4, h5⟩ | ⟨h2, h3⟩)⟩ := h
  · exact ⟨A, m, h3, h4, h5, h1⟩
  · exact absurd hn h2
end Go.Proofs.Ytcdhbdhhknlbaaa
