/- What calm scripts keep (no failure, no halt); what a crash leaves: plain. -/
import Derived.Test.YthbgcmffpnmbeaaVfSm
namespace Go.Proofs.Ythbgcmffpnmbeaa
set_option linter.unusedVariables false
set_option linter.unusedSimpArgs false
open Go.RowKit Go.Maps

theorem cal_calm {S : Di} (h1 : S.halt = -1) (h2 : S.at_ = 0) (ns : List Tx) : cal S ns = (if ns.all goodP = true then 0 else 1, false, S.tick) := by
  unfold cal
  have e1 : S.tick.over = false := by simp [Di.over, Di.tick, h1]
  have e2 : ¬ S.at_ = ((S.calls + 1 : Nat) : Int) := by rw [h2]; omega
  rw [e1, if_neg (by simp), if_neg e2]
  split <;> rfl
section
variable {S : Di} (h1 : S.halt = -1) (h2 : S.at_ = 0)
include h1 h2
theorem creS_calm (t : Tx) (f c : Nat) : (creS S t f c).2 = S.tick ∨ (goodP t = true ∧ S.now t = none ∧ (creS S t f c).2 = (S.tick.setF f ⟨[], 0⟩).made (.put t f)) := by
  unfold creS
  rw [cal_calm h1 h2]
  simp only [List.all_cons, List.all_nil, Bool.and_true]
  cases hg : goodP t
  · left; simp
  · simp only [if_true]
    rw [if_neg (by simp)]
    cases hn : S.now t with
    | some g => left; simp
    | none =>
      simp only [Option.isSome_none, Bool.false_eq_true, if_false]
      split
      · exact .inl rfl
      · exact .inr ⟨trivial, trivial, rfl⟩
theorem appS_calm (t : Tx) (b : List UInt8) : (appS S t b).2 = S.tick ∨ (∃ f x, S.now t = some f ∧ S.fs f = some x ∧ (appS S t b).2 = S.tick.setF f ⟨x.b ++ b, x.s⟩) := by
  unfold appS
  rw [cal_calm h1 h2]
  simp only [List.all_cons, List.all_nil, Bool.and_true]
  cases hg : goodP t
  · left; simp
  · simp only [if_true]
    rw [if_neg (by simp)]
    unfold appF
    cases hn : S.now t with
    | none => exact .inl rfl
    | some f =>
      simp only
      cases hx : S.fs f with
      | none => exact .inl rfl
      | some x =>
        simp only
        split
        · exact .inl rfl
        · exact .inr ⟨f, x, rfl, hx, rfl⟩
theorem synS_calm (t : Tx) : (synS S t).2 = S.tick ∨ (∃ f x, S.now t = some f ∧ S.fs f = some x ∧ (synS S t).2 = S.tick.setF f ⟨x.b, x.b.length⟩) := by
  unfold synS
  rw [cal_calm h1 h2]
  simp only [List.all_cons, List.all_nil, Bool.and_true]
  cases hg : goodP t
  · left; simp
  · simp only [if_true]
    rw [if_neg (by simp)]
    unfold appF
    cases hn : S.now t with
    | none => exact .inl rfl
    | some f =>
      simp only
      cases hx : S.fs f with
      | none => exact .inl rfl
      | some x => exact .inr ⟨f, x, rfl, hx, rfl⟩
theorem sydS_calm : sydS S = (0, { S.tick with dur := S.now, chs := [] }) := by
  unfold sydS
  rw [cal_calm h1 h2]
  rfl
theorem renS_calm (a b : Tx) : (renS S a b).2 = S.tick ∨ (∃ f, S.now a = some f ∧ a ≠ b ∧ goodP b = true ∧ (renS S a b).2 = S.tick.made (.ren a b f)) := by
  unfold renS
  rw [cal_calm h1 h2]
  simp only [List.all_cons, List.all_nil, Bool.and_true]
  cases hg : (goodP a && goodP b)
  · left; simp
  · simp only [if_true]
    rw [if_neg (by simp)]
    cases hn : S.now a with
    | none => exact .inl rfl
    | some f =>
      simp only
      split
      · exact .inl rfl
      · rename_i hne
        simp only [Bool.and_eq_true] at hg
        exact .inr ⟨f, rfl, hne, hg.2, rfl⟩
theorem delS_calm (t : Tx) : (delS S t).2 = S.tick ∨ (∃ f, S.now t = some f ∧ (delS S t).2 = S.tick.made (.del t)) := by
  unfold delS
  rw [cal_calm h1 h2]
  simp only [List.all_cons, List.all_nil, Bool.and_true]
  cases hg : goodP t
  · left; simp
  · simp only [if_true]
    rw [if_neg (by simp)]
    cases hn : S.now t with
    | none => exact .inl rfl
    | some f => exact .inr ⟨f, rfl, rfl⟩
/-- a calm step. -/
theorem Su1.calm {s : Stp} {S1 : Di} (h : Su1 S s S1) : S1 = S ∨ S1 = S.tick ∨
    (s.kind = 0 ∧ ∃ f, goodP s.name = true ∧ S.now s.name = none ∧ S.fs f = none ∧ S1 = (S.tick.setF f ⟨[], 0⟩).made (.put s.name f)) ∨
    (s.kind = 1 ∧ ∃ f x, S.now s.name = some f ∧ S.fs f = some x ∧ S1 = S.tick.setF f ⟨x.b ++ s.bytes, x.s⟩) ∨
    (s.kind = 2 ∧ ∃ f x, S.now s.name = some f ∧ S.fs f = some x ∧ S1 = S.tick.setF f ⟨x.b, x.b.length⟩) ∨
    (s.kind = 3 ∧ S1 = { S.tick with dur := S.now, chs := [] }) ∨
    (s.kind = 4 ∧ ∃ f, S.now s.name = some f ∧ s.name ≠ s.other ∧ goodP s.other = true ∧ S1 = S.tick.made (.ren s.name s.other f)) ∨
    (s.kind = 5 ∧ S1 = S.tick.made (.del s.name)) := by
  rcases h with ⟨hk, f, c, _, hf, rfl⟩ | ⟨hk, rfl⟩ | ⟨hk, rfl⟩ | ⟨hk, rfl⟩ | ⟨hk, rfl⟩ | ⟨hk, rfl⟩ | ⟨_, rfl⟩
  · rcases creS_calm h1 h2 s.name f c with e | ⟨a, b, e⟩
    · exact .inr (.inl e)
    · exact .inr (.inr (.inl ⟨hk, f, a, b, hf, e⟩))
  · rcases appS_calm h1 h2 s.name s.bytes with e | ⟨f, x, a, b, e⟩
    · exact .inr (.inl e)
    · exact .inr (.inr (.inr (.inl ⟨hk, f, x, a, b, e⟩)))
  · rcases synS_calm h1 h2 s.name with e | ⟨f, x, a, b, e⟩
    · exact .inr (.inl e)
    · exact .inr (.inr (.inr (.inr (.inl ⟨hk, f, x, a, b, e⟩))))
  · exact .inr (.inr (.inr (.inr (.inr (.inl ⟨hk, by rw [sydS_calm h1 h2]⟩)))))
  · rcases renS_calm h1 h2 s.name s.other with e | ⟨f, a, b, c, e⟩
    · exact .inr (.inl e)
    · exact .inr (.inr (.inr (.inr (.inr (.inr (.inl ⟨hk, f, a, b, c, e⟩))))))
  · rcases delS_calm h1 h2 s.name with e | ⟨f, a, e⟩
    · exact .inr (.inl e)
    · exact .inr (.inr (.inr (.inr (.inr (.inr (.inr ⟨hk, e⟩))))))
  · exact .inl rfl
end
/-- the name that a change gives a file. -/
def Ch.good : Ch → Prop
  | .put n _ => goodP n = true
  | .ren _ b _ => goodP b = true
  | .del _ => True
/-- What calm scripts keep. -/
structure Inv (S : Di) : Prop where
  halt : S.halt = -1
  at_ : S.at_ = 0
  gn : ∀ k f, S.now k = some f → goodP k = true
  gd : ∀ k f, S.dur k = some f → goodP k = true
  gc : ∀ c ∈ S.chs, c.good
  inj : ∀ k k' f, S.now k = some f → S.now k' = some f → k = k'
  nf : ∀ k f, S.now k = some f → (S.fs f).isSome = true
theorem Inv.new : Inv newD := ⟨rfl, rfl, fun k f h => (by cases h), fun k f h => (by cases h), fun c h => (by cases h), fun k k' f h => (by cases h), fun k f h => (by cases h)⟩
theorem Inv.tick {S : Di} (h : Inv S) : Inv S.tick := ⟨h.halt, h.at_, h.gn, h.gd, h.gc, h.inj, h.nf⟩
theorem setF_some {S : Di} {f g : Nat} {x : Fi} (h : (S.fs g).isSome = true) : ((S.setF f x).fs g).isSome = true := by
  by_cases e : g = f
  · simp [Di.setF, e]
  · simp [Di.setF, e, h]
theorem Inv.setF {S : Di} {f : Nat} {x : Fi} (h : Inv S) : Inv (S.setF f x) := ⟨h.halt, h.at_, h.gn, h.gd, h.gc, h.inj, fun k g hk => setF_some (h.nf k g hk)⟩
theorem app_good {c : Ch} {m : Ents} {k : Tx} {f : Nat} (h : c.app m k = some f) (hc : c.good) (hm : ∀ k f, m k = some f → goodP k = true) : goodP k = true := by
  cases c with
  | put n g =>
    simp only [Ch.app, Ents.put] at h
    split at h
    · rename_i e; rw [e]; exact hc
    · exact hm k f h
  | ren a b g =>
    simp only [Ch.app, Ents.put] at h
    split at h
    · rename_i e; rw [e]; exact hc
    · split at h
      · simp only [Ents.del] at h
        split at h
        · cases h
        · exact hm k f h
      · exact hm k f h
  | del n =>
    simp only [Ch.app, Ents.del] at h
    split at h
    · cases h
    · exact hm k f h
theorem Inv.made {S : Di} {c : Ch} (h : Inv S) (hc : c.good) (hi : ∀ k k' f, c.app S.now k = some f → c.app S.now k' = some f → k = k') (hf : ∀ f, c.file = some f → (S.fs f).isSome = true) : Inv (S.made c) := by
  refine ⟨h.halt, h.at_, fun k f hk => app_good hk hc h.gn, h.gd, fun c' hc' => ?_, hi, fun k f hk => ?_⟩
  · rcases List.mem_append.1 hc' with h1 | h1
    · exact h.gc c' h1
    · rw [List.mem_singleton.1 h1]; exact hc
  · rcases app_file hk with e | ⟨k', e⟩
    · exact hf f e
    · exact h.nf k' f e
theorem Inv.next {S S1 : Di} {s : Stp} (h : Inv S) (h1 : Su1 S s S1) : Inv S1 := by
  rcases h1.calm h.halt h.at_ with rfl | rfl | ⟨_, f, hg, hn, hf, rfl⟩ | ⟨_, f, x, hn, hx, rfl⟩ | ⟨_, f, x, hn, hx, rfl⟩ | ⟨_, rfl⟩ | ⟨_, f, hn, hne, hg, rfl⟩ | ⟨_, rfl⟩
  · exact h
  · exact h.tick
  · refine (h.tick.setF (f := f) (x := ⟨[], 0⟩)).made hg (fun k k' g h3 h4 => ?_) (fun g e => ?_)
    · simp only [Ch.app, Ents.put] at h3 h4
      have hno : ∀ k, S.now k ≠ some f := fun k e => by have := h.nf k f e; rw [hf] at this; cases this
      split at h3
      · rename_i e1
        obtain rfl := Option.some.inj h3
        split at h4
        · rename_i e2; rw [e1, e2]
        · exact (hno _ h4).elim
      · split at h4
        · obtain rfl := Option.some.inj h4
          exact (hno _ h3).elim
        · exact h.inj _ _ _ h3 h4
    · obtain rfl := Option.some.inj e
      simp [Di.setF]
  · exact h.tick.setF
  · exact h.tick.setF
  · exact ⟨h.halt, h.at_, h.gn, h.gn, fun c hc => (by cases hc), h.inj, h.nf⟩
  · refine h.tick.made hg (fun k k' g h3 h4 => ?_) (fun g e => ?_)
    · simp only [Ch.app, Ents.put] at h3 h4
      have e0 : S.tick.now s.name = some f := hn
      rw [if_pos e0] at h3 h4
      have hdel : ∀ k g, (S.tick.now.del s.name) k = some g → S.now k = some g ∧ k ≠ s.name := fun k g hk => by
        simp only [Ents.del] at hk
        split at hk
        · cases hk
        · rename_i e; exact ⟨hk, e⟩
      split at h3
      · rename_i e1
        obtain rfl := Option.some.inj h3
        split at h4
        · rename_i e2; rw [e1, e2]
        · obtain ⟨h5, h6⟩ := hdel _ _ h4
          exact (h6 (h.inj _ _ _ h5 hn)).elim
      · obtain ⟨h7, h8⟩ := hdel _ _ h3
        split at h4
        · obtain rfl := Option.some.inj h4
          exact (h8 (h.inj _ _ _ h7 hn)).elim
        · exact h.inj _ _ _ h7 (hdel _ _ h4).1
    · obtain rfl := Option.some.inj e
      exact h.nf _ _ hn
  · refine h.tick.made trivial (fun k k' g h3 h4 => ?_) (fun g e => (by cases e))
    simp only [Ch.app, Ents.del] at h3 h4
    split at h3
    · cases h3
    · split at h4
      · cases h4
      · exact h.inj _ _ _ h3 h4
theorem Inv.run {S S' : Di} {l : List Stp} (h : Inv S) (hr : SuR S l S') : Inv S' := by
  induction l generalizing S with
  | nil => obtain rfl : S' = S := hr; exact h
  | cons a r ih => obtain ⟨Sa, h2, h3⟩ := hr; exact ih (h.next h2) h3
theorem Inv.off {S : Di} (h : Inv S) : S.off = false := by simp [Di.off, h.halt]
theorem off_neg {S : Di} (h : S.halt = -1) : S.off = false := by simp [Di.off, h]
theorem left_good {chs : List Ch} {l : List Int} {m : Ents} (hc : ∀ c ∈ chs, c.good) (hm : ∀ k f, m k = some f → goodP k = true) : ∀ k f, leftS chs l m k = some f → goodP k = true := by
  induction chs generalizing l m with
  | nil => exact hm
  | cons c r ih =>
    refine ih (fun c' h => hc c' (.tail _ h)) fun k f hk => ?_
    split at hk
    · exact app_good hk (hc c (.head _)) hm
    · exact hm k f hk
theorem reaS_ok {S : Di} {t : Tx} {f : Nat} {x : Fi} (h1 : S.halt = -1) (h2 : goodP t = true) (h3 : S.now t = some f) (h4 : S.fs f = some x) : reaS S t = (x.b, 0) := by
  unfold reaS
  rw [off_neg h1, h2]
  simp [appF, h3, h4]
/-- names are good ones. -/
structure Gd (S : Di) : Prop where
  gd : ∀ k f, S.dur k = some f → goodP k = true
  gc : ∀ c ∈ S.chs, c.good
theorem Inv.gds {S : Di} (h : Inv S) : Gd S := ⟨h.gd, h.gc⟩
/-- the names of what is left. -/
theorem CrashR.names {S C : Di} {l : List Int} {ks : List Tx} (h : CrashR S l ks C) : KeysL C.now ks := by
  refine ⟨h.keys.1, fun k => ⟨fun hk => ?_, fun hk => ?_⟩⟩
  · obtain ⟨i, hi, rfl⟩ := List.getElem_of_mem hk
    obtain ⟨f, x, g, _, _, e, _⟩ := h.some i _ (List.getElem?_eq_getElem hi)
    rw [e]; rfl
  · by_cases hm : k ∈ ks
    · exact hm
    · rw [h.none k hm] at hk; cases hk
theorem CrashR.good {S C : Di} {l : List Int} {ks : List Tx} (h : CrashR S l ks C) (hi : Gd S) : ∀ k ∈ ks, goodP k = true := fun k hk => by
  obtain ⟨f, hf⟩ := Option.isSome_iff_exists.1 ((h.keys.2 k).1 hk)
  exact left_good hi.gc hi.gd k f hf
theorem CrashR.read {S C : Di} {l : List Int} {ks : List Tx} (h : CrashR S l ks C) (hi : Gd S) {i : Nat} {k : Tx} (hk : ks[i]? = Option.some k) :
    ∃ f x, leftS S.chs l S.dur k = Option.some f ∧ S.fs f = Option.some x ∧ reaS C k = ((keep x (hdC (l.drop (S.chs.length + i)))).b, 0) := by
  obtain ⟨f, x, g, h1, h2, h3, h4⟩ := h.some i k hk
  exact ⟨f, x, h1, h2, reaS_ok h.halt (h.good hi k (List.mem_of_getElem? hk)) h3 h4⟩
theorem CrashR.held {S C : Di} {l : List Int} {ks : List Tx} {bss : List (List UInt8)} (h : CrashR S l ks C) (hi : Gd S) (hl : bss.length = ks.length)
    (hb : ∀ (i : Nat) (k : Tx) (f : Nat) (x : Fi), ks[i]? = Option.some k → leftS S.chs l S.dur k = Option.some f → S.fs f = Option.some x → (keep x (hdC (l.drop (S.chs.length + i)))).b = bss.getD i []) : heldB C ks bss := by
  refine ⟨?_, hl, fun i hik => ?_⟩
  · rw [off_neg h.halt, if_neg (by simp)]
    exact h.names
  · have hk : ks[i]? = Option.some (ks.getD i []) := by rw [List.getD, List.getElem?_eq_getElem hik]; rfl
    obtain ⟨f, x, h1, h2, h3⟩ := h.read hi hk
    rw [h3, hb i _ f x hk h1 h2]
theorem CrashR.gds {S C : Di} {l : List Int} {ks : List Tx} (h : CrashR S l ks C) (hi : Gd S) : Gd C := by
  refine ⟨fun k f hk => ?_, fun c hc => by rw [h.chs] at hc; cases hc⟩
  rw [h.dur] at hk
  exact h.good hi k ((h.names.2 k).2 (by rw [hk]; rfl))
end Go.Proofs.Ythbgcmffpnmbeaa
