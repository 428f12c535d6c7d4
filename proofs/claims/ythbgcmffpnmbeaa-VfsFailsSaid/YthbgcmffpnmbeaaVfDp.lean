/- Behind Sync of all files and SyncDir: plain. -/
import Derived.Test.YthbgcmffpnmbeaaVfBp
namespace Go.Proofs.Ythbgcmffpnmbeaa
set_option linter.unusedVariables false
set_option linter.unusedSimpArgs false
open Go.RowKit Go.Maps

def mkSync (t : Tx) : Stp := ⟨2, 0, 0, 0, 0, t, [], [], []⟩
theorem syn_one {S S1 : Di} {t : Tx} {f : Nat} (hi : Inv S) (hn : S.now t = some f) (h : Su1 S (mkSync t) S1) : ∃ x, S.fs f = some x ∧ S1 = S.tick.setF f ⟨x.b, x.b.length⟩ := by
  obtain ⟨x, hx⟩ := Option.isSome_iff_exists.1 (hi.nf t f hn)
  rcases h with ⟨e, _⟩ | ⟨e, _⟩ | ⟨_, rfl⟩ | ⟨e, _⟩ | ⟨e, _⟩ | ⟨e, _⟩ | ⟨e, _⟩
  · simp [mkSync] at e
  · simp [mkSync] at e
  · refine ⟨x, hx, ?_⟩
    unfold synS
    rw [cal_calm hi.halt hi.at_]
    simp only [mkSync, List.all_cons, List.all_nil, Bool.and_true, hi.gn t f hn, if_true]
    rw [if_neg (by simp), appF_some hn hx]
  · simp [mkSync] at e
  · simp [mkSync] at e
  · simp [mkSync] at e
  · simp [mkSync] at e
theorem syn_run {l : List Tx} : ∀ {S S1 : Di}, Inv S → (∀ t ∈ l, (S.now t).isSome = true) → SuR S (l.map mkSync) S1 →
    S1.now = S.now ∧ (∀ f x, S.fs f = some x → ∃ s, S1.fs f = some ⟨x.b, s⟩ ∧ (s = x.s ∨ s = x.b.length)) ∧ (∀ t ∈ l, ∀ f, S.now t = some f → ∃ x, S.fs f = some x ∧ S1.fs f = some ⟨x.b, x.b.length⟩) := by
  induction l with
  | nil =>
    intro S S1 hi _ h
    obtain rfl : S1 = S := h
    exact ⟨rfl, fun f x hx => ⟨x.s, hx, .inl rfl⟩, fun t ht => (by cases ht)⟩
  | cons a r ih =>
    intro S S1 hi hl h
    obtain ⟨Sa, h1, h2⟩ := h
    obtain ⟨f, hf⟩ := Option.isSome_iff_exists.1 (hl a (.head _))
    obtain ⟨x, hx, e⟩ := syn_one hi hf h1
    have hnow : Sa.now = S.now := by rw [e]; rfl
    have hfs : ∀ g y, S.fs g = some y → ∃ s, Sa.fs g = some ⟨y.b, s⟩ ∧ (s = y.s ∨ s = y.b.length) ∧ (g = f → s = y.b.length) := fun g y hy => by
      rw [e]
      by_cases hg : g = f
      · subst hg
        rw [hx] at hy
        obtain rfl := Option.some.inj hy
        exact ⟨x.b.length, by simp [Di.setF], .inr rfl, fun _ => rfl⟩
      · exact ⟨y.s, by simp [Di.setF, hg, Di.tick, hy], .inl rfl, fun h => (hg h).elim⟩
    obtain ⟨g1, g2, g3⟩ := ih (hi.next h1) (fun t ht => by rw [hnow]; exact hl t (.tail _ ht)) h2
    refine ⟨g1.trans hnow, fun g y hy => ?_, fun t ht g hg => ?_⟩
    · obtain ⟨s, e1, e2, _⟩ := hfs g y hy
      obtain ⟨s', e3, e4⟩ := g2 g _ e1
      refine ⟨s', e3, ?_⟩
      rcases e4 with rfl | rfl
      · exact e2
      · exact .inr rfl
    · rcases List.mem_cons.1 ht with rfl | ht
      · rw [hf] at hg
        obtain rfl := Option.some.inj hg
        obtain ⟨s, e1, _, e2⟩ := hfs f x hx
        have := e2 rfl
        subst this
        obtain ⟨s', e3, e4⟩ := g2 f _ e1
        refine ⟨x, hx, ?_⟩
        rw [e3]
        rcases e4 with rfl | rfl <;> rfl
      · obtain ⟨y, e1, e2⟩ := g3 t ht g (by rw [hnow]; exact hg)
        obtain ⟨z, hz⟩ := Option.isSome_iff_exists.1 (hi.nf t g hg)
        obtain ⟨s, e3, _⟩ := hfs g z hz
        rw [e3] at e1
        obtain rfl := Option.some.inj e1
        exact ⟨z, hz, e2⟩
/-- All is safe. -/
structure Safe (S : Di) (ks : List Tx) : Prop where
  inv : Inv S
  dur : S.dur = S.now
  chs : S.chs = []
  keys : KeysL S.now ks
  full : ∀ k f, S.now k = some f → ∃ x, S.fs f = some x ∧ x.s = x.b.length
theorem safe_of {S S1 : Di} {ks : List Tx} (hi : Inv S) (hk : KeysL S.now ks) (h : SuR S (ks.map mkSync) S1) : Safe (sydS S1).2 ks := by
  have hi1 := hi.run h
  obtain ⟨g1, _, g3⟩ := syn_run hi (fun t ht => (hk.2 t).1 ht) h
  rw [sydS_calm hi1.halt hi1.at_]
  refine ⟨⟨hi1.halt, hi1.at_, hi1.gn, hi1.gn, fun c hc => (by cases hc), hi1.inj, hi1.nf⟩, rfl, rfl, ?_, fun k f hf => ?_⟩
  · show KeysL S1.now ks
    rw [g1]; exact hk
  · have hf' : S.now k = some f := by rw [← g1]; exact hf
    obtain ⟨x, _, e⟩ := g3 k ((hk.2 k).2 (by rw [hf']; rfl)) f hf'
    exact ⟨_, e, rfl⟩
def bytesOf (S : Di) (ks : List Tx) : List (List UInt8) := ks.map fun k => (reaS S k).1
theorem bytesOf_at {S : Di} {ks : List Tx} {i : Nat} {k : Tx} (h : ks[i]? = some k) : (bytesOf S ks).getD i [] = (reaS S k).1 := by
  unfold bytesOf
  rw [List.getD, List.getElem?_map, h]; rfl
theorem Safe.read {S : Di} {ks : List Tx} (h : Safe S ks) {i : Nat} {k : Tx} (hk : ks[i]? = some k) : ∃ f x, S.now k = some f ∧ S.fs f = some x ∧ x.s = x.b.length ∧ reaS S k = (x.b, 0) := by
  obtain ⟨f, hf⟩ := Option.isSome_iff_exists.1 ((h.keys.2 k).1 (List.mem_of_getElem? hk))
  obtain ⟨x, hx, hs⟩ := h.full k f hf
  exact ⟨f, x, hf, hx, hs, reaS_ok h.inv.halt (h.inv.gn k f hf) hf hx⟩
theorem Safe.held {S : Di} {ks : List Tx} (h : Safe S ks) : heldB S ks (bytesOf S ks) := by
  refine ⟨by rw [h.inv.off, if_neg (by simp)]; exact h.keys, by simp [bytesOf], fun i hi => ?_⟩
  have hk : ks[i]? = some (ks.getD i []) := by rw [List.getD, List.getElem?_eq_getElem hi]; rfl
  obtain ⟨f, x, _, _, _, e⟩ := h.read hk
  rw [bytesOf_at hk, e]
theorem Safe.crash {S C : Di} {ks ks2 : List Tx} {l : List Int} (h : Safe S ks) (hc : CrashR S l ks2 C) : heldB C ks (bytesOf S ks) := by
  have hl : leftS S.chs l S.dur = S.now := by rw [h.chs, h.dur]; rfl
  have hks : ks2 = ks := by
    have h3 := hc.keys
    rw [hl] at h3
    exact h3.uniq h.keys
  subst hks
  refine hc.held h.inv.gds (by simp [bytesOf]) fun i k f x hk hf hx => ?_
  rw [hl] at hf
  obtain ⟨f', x', e1, e2, e3, e4⟩ := h.read hk
  rw [e1] at hf
  obtain rfl := Option.some.inj hf
  rw [e2] at hx
  obtain rfl := Option.some.inj hx
  rw [bytesOf_at hk, e4]
  simp only [keep]
  rw [List.take_of_length_le (by omega)]
/-- what is called without a sync can be lost. -/
structure Later (S S' : Di) : Prop where
  dur : S'.dur = S.dur
  fs : ∀ f x, S.fs f = some x → ∃ b, S'.fs f = some ⟨x.b ++ b, x.s⟩
theorem Later.refl (S : Di) : Later S S := ⟨rfl, fun f x hx => ⟨[], by rw [hx, List.append_nil]⟩⟩
theorem Later.next {S S1 S2 : Di} {s : Stp} (h : Later S S1) (hi : Inv S1) (h1 : Su1 S1 s S2) (h2 : s.kind ≠ 2) (h3 : s.kind ≠ 3) : Later S S2 := by
  rcases h1.calm hi.halt hi.at_ with rfl | rfl | ⟨_, f, hg, hn, hf, rfl⟩ | ⟨_, f, x, hn, hx, rfl⟩ | ⟨e, _⟩ | ⟨e, _⟩ | ⟨_, f, hn, hne, hg, rfl⟩ | ⟨_, rfl⟩
  · exact h
  · exact ⟨h.dur, h.fs⟩
  · refine ⟨h.dur, fun g y hy => ?_⟩
    obtain ⟨b, hb⟩ := h.fs g y hy
    have hne : g ≠ f := fun e => by rw [e, hf] at hb; cases hb
    exact ⟨b, by simp [Di.made, Di.setF, hne, Di.tick, hb]⟩
  · refine ⟨h.dur, fun g y hy => ?_⟩
    obtain ⟨b, hb⟩ := h.fs g y hy
    by_cases e : g = f
    · subst e
      rw [hb] at hx
      obtain rfl := Option.some.inj hx
      exact ⟨b ++ s.bytes, by simp [Di.setF, List.append_assoc]⟩
    · exact ⟨b, by simp [Di.setF, e, Di.tick, hb]⟩
  · exact (h2 e).elim
  · exact (h3 e).elim
  · exact ⟨h.dur, h.fs⟩
  · exact ⟨h.dur, h.fs⟩
theorem Later.run {l : List Stp} : ∀ {S S1 S2 : Di}, Later S S1 → Inv S1 → SuR S1 l S2 → (∀ s ∈ l, s.kind ≠ 2 ∧ s.kind ≠ 3) → Later S S2 := by
  induction l with
  | nil => intro S S1 S2 h hi hr _; obtain rfl : S2 = S1 := hr; exact h
  | cons a r ih =>
    intro S S1 S2 h hi hr hk
    obtain ⟨Sa, h2, h3⟩ := hr
    exact ih (h.next hi h2 (hk a (.head _)).1 (hk a (.head _)).2) (hi.next h2) h3 (fun s hs => hk s (.tail _ hs))
theorem left_nil (chs : List Ch) (m : Ents) : leftS chs [] m = m := by
  induction chs generalizing m with
  | nil => rfl
  | cons c r ih => exact ih m
theorem Safe.lost {S S' C : Di} {ks ks2 : List Tx} (h : Safe S ks) (hl : Later S S') (hi : Inv S') (hc : CrashR S' [] ks2 C) : heldB C ks (bytesOf S ks) := by
  have he : leftS S'.chs [] S'.dur = S.now := by rw [left_nil, hl.dur, h.dur]
  have hks : ks2 = ks := by
    have h3 := hc.keys
    rw [he] at h3
    exact h3.uniq h.keys
  subst hks
  refine hc.held hi.gds (by simp [bytesOf]) fun i k f x hk hf hx => ?_
  rw [he] at hf
  obtain ⟨f', x', e1, e2, e3, e4⟩ := h.read hk
  rw [e1] at hf
  obtain rfl := Option.some.inj hf
  obtain ⟨b, hb⟩ := hl.fs f' x' e2
  rw [hb] at hx
  obtain rfl := Option.some.inj hx
  rw [bytesOf_at hk, e4, List.drop_nil]
  simp only [keep, hdC, Nat.zero_mod, Nat.add_zero]
  rw [e3, List.take_left']
  rfl
end Go.Proofs.Ythbgcmffpnmbeaa
