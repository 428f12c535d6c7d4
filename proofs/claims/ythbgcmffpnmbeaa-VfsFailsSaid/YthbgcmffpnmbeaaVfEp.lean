/- A call that is made to fail: plain. -/
import Derived.Test.YthbgcmffpnmbeaaVfDp
import Derived.Test.YthbgcmffpnmbeaaVfF
namespace Go.Proofs.Ythbgcmffpnmbeaa
set_option linter.unusedVariables false
set_option linter.unusedSimpArgs false
open Go.RowKit Go.Maps

theorem cal_fail {S : Di} {e p : Int} (h1 : S.halt = -1) (he : e ≠ 0) (ns : List Tx) : cal (faiS S 1 e p) ns = (e, true, { S with calls := S.calls + 1, at_ := 0, e := e, part := p }) := by
  have hf : faiS S 1 e p = { S with at_ := (S.calls : Int) + 1, e := e, part := p } := if_pos ⟨by omega, he, by omega⟩
  rw [hf]
  unfold cal
  have e1 : ({ S with at_ := (S.calls : Int) + 1, e := e, part := p } : Di).tick.over = false := by simp [Di.over, Di.tick, h1]
  rw [e1, if_neg (by simp), if_pos (by simp)]
  rfl
/-- what has failed leaves the directory, but for an append. -/
structure Failed (S : Di) (s : Stp) (S1 : Di) : Prop where
  calls : S1.calls = S.calls + 1
  halt : S1.halt = -1
  at_ : S1.at_ = 0
  now : S1.now = S.now
  fs : ∀ f x, S.fs f = some x → ∃ tl, S1.fs f = some ⟨x.b ++ tl, x.s⟩ ∧ (tl = [] ∨ (s.kind = 1 ∧ S.now s.name = some f ∧ ∃ q, tl = s.bytes.take q))
theorem failed_of {S S1 : Di} {s : Stp} {e p : Int} (hi : Inv S) (he : e ≠ 0) (h0 : 0 ≤ s.kind) (h5 : s.kind ≤ 5) (h : Su1 (faiS S 1 e p) s S1) : Failed S s S1 := by
  have hbase : ∀ S2 : Di, S2 = { S with calls := S.calls + 1, at_ := 0, e := e, part := p } → Failed S s S2 := fun S2 e2 => by
    rw [e2]
    exact ⟨rfl, hi.halt, rfl, rfl, fun f x hx => ⟨[], by rw [List.append_nil]; exact hx, .inl rfl⟩⟩
  have hc := fun ns => cal_fail (p := p) hi.halt he ns
  rcases h with ⟨_, f, c, _, _, rfl⟩ | ⟨hk, rfl⟩ | ⟨_, rfl⟩ | ⟨_, rfl⟩ | ⟨_, rfl⟩ | ⟨_, rfl⟩ | ⟨hk, _⟩
  · refine hbase _ ?_
    unfold creS
    rw [hc]
    exact congrArg Prod.snd (if_pos he)
  · unfold appS
    rw [hc]
    rw [if_neg (by simp)]
    have hap : appF (faiS S 1 e p) s.name = appF S s.name := by
      unfold faiS
      split <;> rfl
    rw [hap]
    unfold appF
    cases hn : S.now s.name with
    | none => exact hbase _ rfl
    | some f =>
      simp only
      cases hx : S.fs f with
      | none => exact hbase _ rfl
      | some x =>
        simp only
        split
        · exact hbase _ rfl
        · refine ⟨rfl, hi.halt, rfl, rfl, fun g y hy => ?_⟩
          by_cases eg : g = f
          · subst eg
            rw [hx] at hy
            obtain rfl := Option.some.inj hy
            exact ⟨_, by simp only [Di.setF, if_true]; rfl, .inr ⟨hk, hn, _, rfl⟩⟩
          · exact ⟨[], by simp [Di.setF, eg, hy], .inl rfl⟩
  · refine hbase _ ?_
    unfold synS
    rw [hc]
    exact congrArg Prod.snd (if_pos he)
  · refine hbase _ ?_
    unfold sydS
    rw [hc]
    exact congrArg Prod.snd (if_pos he)
  · refine hbase _ ?_
    unfold renS
    rw [hc]
    exact congrArg Prod.snd (if_pos he)
  · refine hbase _ ?_
    unfold delS
    rw [hc]
    exact congrArg Prod.snd (if_pos he)
  · omega
/-- what is read behind it. -/
theorem Failed.read {S S1 : Di} {s : Stp} {k : Tx} {f : Nat} (h : Failed S s S1) (hi : Inv S) (hk : S.now k = some f) :
    ∃ bs tl, reaS S k = (bs, 0) ∧ reaS S1 k = (bs ++ tl, 0) ∧ (tl = [] ∨ (s.kind = 1 ∧ s.name = k)) ∧ tl.length ≤ s.bytes.length ∧ tl = s.bytes.take tl.length := by
  obtain ⟨x, hx⟩ := Option.isSome_iff_exists.1 (hi.nf k f hk)
  obtain ⟨tl, e1, e2⟩ := h.fs f x hx
  have hg := hi.gn k f hk
  refine ⟨x.b, tl, reaS_ok hi.halt hg hk hx, reaS_ok h.halt hg (by rw [h.now]; exact hk) e1, ?_, ?_, ?_⟩
  · rcases e2 with e2 | ⟨a, b, _⟩
    · exact .inl e2
    · exact .inr ⟨a, hi.inj _ _ _ b hk⟩
  · rcases e2 with e2 | ⟨a, b, q, rfl⟩
    · rw [e2]; simp
    · rw [List.length_take]; omega
  · rcases e2 with rfl | ⟨a, b, q, rfl⟩
    · simp
    · rw [List.length_take, List.take_eq_take_iff]; omega
theorem Failed.sync {S S1 : Di} {s : Stp} (h : Failed S s S1) : (sydS S1).1 = 0 := by rw [sydS_calm h.halt h.at_]
theorem Failed.keys {S S1 : Di} {s : Stp} {ks : List Tx} (h : Failed S s S1) (hk : KeysL S.now ks) : KeysL S1.now ks := by rw [h.now]; exact hk
end Go.Proofs.Ythbgcmffpnmbeaa
