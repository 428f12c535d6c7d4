/- A crash of a directory whose names keep their files: plain. -/
import Derived.Test.YthbgcmffpnmbeaaVfFp
namespace Go.Proofs.Ythbgcmffpnmbeaa
set_option linter.unusedVariables false
set_option linter.unusedSimpArgs false
open Go.RowKit Go.Maps

/-- each name keeps its file. -/
structure Sub (S : Di) : Prop where
  dur : ∀ k f, S.dur k = some f → S.now k = some f
  chs : ∀ c ∈ S.chs, ∃ n f, c = .put n f ∧ S.now n = some f
theorem Sub.new : Sub newD := ⟨fun k f h => (by cases h), fun c h => (by cases h)⟩
theorem Sub.next {S S1 : Di} {s : Stp} (hi : Inv S) (h : Sub S) (h1 : Su1 S s S1) (h4 : s.kind ≠ 4) (h5 : s.kind ≠ 5) : Sub S1 := by
  rcases h1.calm hi.halt hi.at_ with rfl | rfl | ⟨_, f, hg, hn, hf, rfl⟩ | ⟨_, f, x, hn, hx, rfl⟩ | ⟨_, f, x, hn, hx, rfl⟩ | ⟨_, rfl⟩ | ⟨e, _⟩ | ⟨e, _⟩
  · exact h
  · exact ⟨h.dur, h.chs⟩
  · have hput : ∀ k g, S.now k = some g → (S.now.put s.name f) k = some g := fun k g hk => by
      simp only [Ents.put]
      split
      · rename_i e; rw [e, hn] at hk; cases hk
      · exact hk
    refine ⟨fun k g hk => hput k g (h.dur k g hk), fun c hc => ?_⟩
    rcases List.mem_append.1 hc with h1 | h1
    · obtain ⟨n, g, e, hg⟩ := h.chs c h1
      exact ⟨n, g, e, hput n g hg⟩
    · exact ⟨s.name, f, List.mem_singleton.1 h1, by show (S.now.put s.name f) s.name = _; simp [Ents.put]⟩
  · exact ⟨h.dur, h.chs⟩
  · exact ⟨h.dur, h.chs⟩
  · exact ⟨fun k f h => h, fun c hc => (by cases hc)⟩
  · exact (h4 e).elim
  · exact (h5 e).elim
theorem Sub.run {S S' : Di} {l : List Stp} (hi : Inv S) (h : Sub S) (hr : SuR S l S') (hk : ∀ s ∈ l, s.kind ≠ 4 ∧ s.kind ≠ 5) : Sub S' := by
  induction l generalizing S with
  | nil => obtain rfl : S' = S := hr; exact h
  | cons a r ih => obtain ⟨Sa, h2, h3⟩ := hr; exact ih (hi.next h2) (h.next hi h2 (hk a (.head _)).1 (hk a (.head _)).2) h3 (fun s hs => hk s (.tail _ hs))
theorem left_sub {now : Ents} {chs : List Ch} {l : List Int} {m : Ents} (hc : ∀ c ∈ chs, ∃ n f, c = .put n f ∧ now n = some f) (hm : ∀ k f, m k = some f → now k = some f) : ∀ k f, leftS chs l m k = some f → now k = some f := by
  induction chs generalizing l m with
  | nil => exact hm
  | cons c r ih =>
    refine ih (fun c' h => hc c' (.tail _ h)) fun k f hk => ?_
    split at hk
    · obtain ⟨n, g, rfl, hg⟩ := hc c (.head _)
      simp only [Ch.app, Ents.put] at hk
      split at hk
      · rename_i e; rw [e, hg]; exact hk
      · exact hm k f hk
    · exact hm k f hk
theorem keep_b (x : Fi) (c : Nat) (h : x.s ≤ x.b.length) : (keep x c).s = (keep x c).b.length := by
  have := keep_le h c
  simp only [keep, List.length_take]
  omega
theorem begins_plain {S C : Di} {l : List Int} {ks : List Tx} {i : Nat} {k : Tx} (hi : Inv S) (hs : Sub S) (h : CrashR S l ks C) (hk : ks[i]? = some k) :
    ∃ bC bS, reaS C k = (bC, 0) ∧ reaS S k = (bS, 0) ∧ bC.length ≤ bS.length ∧ bC = bS.take bC.length := by
  obtain ⟨f, x, h1, h2, h3⟩ := h.read hi.gds hk
  have hn := left_sub hs.chs hs.dur k f h1
  refine ⟨_, _, h3, reaS_ok hi.halt (hi.gn k f hn) hn h2, ?_, ?_⟩
  · simp only [keep, List.length_take]; omega
  · simp only [keep]
    rw [List.length_take, List.take_eq_take_iff]
    omega
theorem again_plain {S C C2 : Di} {l l2 : List Int} {ks ks2 : List Tx} (hi : Gd S) (hle : ∀ f x, S.fs f = some x → x.s ≤ x.b.length) (h : CrashR S l ks C) (h2 : CrashR C l2 ks2 C2) :
    ks2 = ks ∧ ∀ (i : Nat) (k : Tx), ks[i]? = some k → (reaS C k).2 = 0 ∧ reaS C2 k = reaS C k := by
  have hl : ∀ m, leftS C.chs l2 m = m := fun m => by rw [h.chs]; rfl
  have hks : ks2 = ks := by
    have h3 := h2.keys
    rw [hl, h.dur] at h3
    exact h3.uniq h.names
  refine ⟨hks, fun i k hk => ?_⟩
  subst hks
  obtain ⟨f, x, g, h3, h4, h5, h6⟩ := h.some i k hk
  obtain ⟨f', x', h7, h8, h9⟩ := h2.read (h.gds hi) hk
  rw [hl, h.dur] at h7
  rw [h5] at h7
  obtain rfl := Option.some.inj h7
  rw [h6] at h8
  obtain rfl := Option.some.inj h8
  have hC := reaS_ok h.halt (h.good hi k (List.mem_of_getElem? hk)) h5 h6
  refine ⟨by rw [hC], ?_⟩
  rw [h9, hC]
  have hb := keep_b x (hdC (l.drop (S.chs.length + i))) (hle f x h4)
  simp only [keep] at hb ⊢
  rw [List.take_of_length_le (by omega)]
end Go.Proofs.Ythbgcmffpnmbeaa
