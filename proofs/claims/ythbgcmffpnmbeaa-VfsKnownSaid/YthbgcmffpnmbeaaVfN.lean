/- Calls with a name or two; a file is written. -/
import Derived.Test.YthbgcmffpnmbeaaVfL
import Derived.Test.YthbgcmffpnmbeaaMem4
namespace Go.Proofs.Ythbgcmffpnmbeaa
set_option linter.unusedVariables false
set_option linter.unusedSimpArgs false
open Go.RowKit Go.Maps

section
variable {w w' : World} {Z : Nat → Prop} {d N f : Nat} {S : Di} {p : Ph}
theorem call1_any (h : DirP w Z d S N p) (hN : N < 1099511627776) (t : Tx) :
    Calls Try.prog 43 #[.pointer (some ⟨d, 0, none⟩), .slice (some ⟨w.heap.size, 0, none⟩) 1 1] (w.alloc (.cells #[sv t] 9)) (RetC (w.alloc (.cells #[sv t] 9)) Z d N p (cal S [t])) := by
  have hd := h.lt d h.zd
  refine call_any _ Z d N S p _ 1 1 _ [t] (h.fr0 ((Fr.refl No w).alloc _)) (by omega) rfl (Nat.le_refl _) (by decide) (by simp) (fun ad e => ?_) (Rd.block (heap_alloc_new w _))
  obtain rfl := Option.some.inj e
  show w.heap.size ≠ d
  omega
theorem call2_any (h : DirP w Z d S N p) (hN : N < 1099511627776) (s t : Tx) :
    Calls Try.prog 43 #[.pointer (some ⟨d, 0, none⟩), .slice (some ⟨w.heap.size, 0, none⟩) 2 2] (w.alloc (.cells #[sv s, sv t] 9)) (RetC (w.alloc (.cells #[sv s, sv t] 9)) Z d N p (cal S [s, t])) := by
  have hd := h.lt d h.zd
  refine call_any _ Z d N S p _ 2 2 _ [s, t] (h.fr0 ((Fr.refl No w).alloc _)) (by omega) rfl (Nat.le_refl _) (by decide) (by simp) (fun ad e => ?_) (Rd.block (heap_alloc_new w _))
  obtain rfl := Option.some.inj e
  show w.heap.size ≠ d
  omega
theorem call0_any (h : DirP w Z d S N p) (hN : N < 1099511627776) :
    Calls Try.prog 43 #[.pointer (some ⟨d, 0, none⟩), .slice none 0 0] w (RetC w Z d N p (cal S [])) :=
  call_any w Z d N S p none 0 0 0 [] h (by omega) rfl (Nat.le_refl _) (by decide) (Nat.zero_le _) (fun ad e => by cases e) (Rd.nil _ _ _)
theorem cal_fs (S : Di) (l : List Tx) : (cal S l).2.2.fs = S.fs ∧ (cal S l).2.2.now = S.now ∧ (cal S l).2.2.dur = S.dur ∧ (cal S l).2.2.chs = S.chs ∧ (cal S l).2.2.part = S.part := by
  unfold cal
  split
  · exact ⟨rfl, rfl, rfl, rfl, rfl⟩
  · split
    · exact ⟨rfl, rfl, rfl, rfl, rfl⟩
    · split <;> exact ⟨rfl, rfl, rfl, rfl, rfl⟩
/-- A file is written. -/
theorem DirP.fileW {x x' : Fi} {v' : Value} (h : DirP w Z d S N p) (hx : S.fs f = some x) (fr : Fr (fun k => k = f ∨ (p.fv f).ownBlock = some k) w w') (hf : FiM w' f v' x')
    (hl : v'.ownBlock = (p.fv f).ownBlock ∨ ∀ k, v'.ownBlock = some k → w.heap.size ≤ k) : Step w w' Z d (S.setF f x') N := by
  obtain ⟨hfx, hzf, hzv⟩ := h.files f x hx
  have hk : OfK w (fun o => o = some 83 ∨ o = some 5) (fun k => k = f ∨ (p.fv f).ownBlock = some k) := fun k o hk ho => by
    rcases hk with rfl | hk
    · rw [hfx.cell] at ho
      injection ho with ho
      exact .inl (by rw [← ho]; rfl)
    · exact .inr (OfK.own hfx.own k o hk ho)
  obtain ⟨n1, D1, a1, m1⟩ := h.now
  obtain ⟨n2, D2, a2, m2⟩ := h.dur
  obtain ⟨vs, o1, c1⟩ := h.chs
  have frZ : Fr Z w w' := fr.mono fun i _ hi => by
    rcases hi with rfl | hi
    · exact hzf
    · exact hzv i hi
  have hsome : ∀ g, (S.fs g).isSome = true → ((S.setF f x').fs g).isSome = true := fun g hg => by
    unfold Di.setF
    by_cases e : g = f
    · simp [e]
    · simp [e, hg]
  have hback : ∀ g, ((S.setF f x').fs g).isSome = true → (S.fs g).isSome = true := fun g hg => by
    by_cases e : g = f
    · rw [e, hx]; rfl
    · simpa [Di.setF, e] using hg
  refine ⟨fun k => Z k ∨ v'.ownBlock = some k, ⟨{ p with fv := fun g => if g = f then v' else p.fv g }, ?_⟩, frZ, fun _ h => .inl h, fun k hk => ?_⟩
  · refine ⟨blk_frK h.dir fr hk (by simp [kd]), ⟨n1, D1, a1, m1.frK fr hk (by simp)⟩, ⟨n2, D2, a2, m2.frK fr hk (by simp)⟩, h.ne, ⟨vs, own_frK o1 fr hk (by simp), fun j c v hc hv => (c1 j c v hc hv).frK fr hk (by simp) (by simp) (fun _ h => .inl h)⟩,
      fun g y hy => ?_, fun g1 g2 hne h1 h2 k hk1 => ?_, fun k g hg => hsome g (h.nowf k g hg), fun k g hg => hsome g (h.durf k g hg), fun c hc g hg => hsome g (h.chf c hc g hg), .inl h.zd, .inl h.znb, .inl h.zmb, fun k hk => .inl (h.zcv k hk), fun k hk => ?_, h.calls⟩
    · by_cases e : g = f
      · subst e
        have : x' = y := by simpa [Di.setF] using hy
        subst this
        simp only [if_true]
        exact ⟨hf, .inl hzf, fun k hk => .inr hk⟩
      · have hy' : S.fs g = some y := by simpa [Di.setF, e] using hy
        obtain ⟨hgx, hzg, hzgv⟩ := h.files g y hy'
        simp only [if_neg e]
        refine ⟨hgx.fr fr ?_ fun k hkk => ?_, .inl hzg, fun k hk => .inl (hzgv k hk)⟩
        · rintro (e' | e')
          · exact e e'
          · exact (hfx.own.ne_blk e' hgx.cell (by decide)).elim
        · rintro (e' | e')
          · subst e'
            exact (hgx.own.ne_blk hkk hfx.cell (by decide)).elim
          · exact h.apart f g (fun e' => e e'.symm) (by rw [hx]; rfl) (by rw [hy']; rfl) k e' hkk
    · have h1' := hback _ h1
      have h2' := hback _ h2
      have hlt : ∀ g, (S.fs g).isSome = true → ∀ k, (p.fv g).ownBlock = some k → k < w.heap.size := fun g hg k hk => by
        obtain ⟨y, hy⟩ := Option.isSome_iff_exists.1 hg
        exact h.lt k ((h.files g y hy).2.2 k hk)
      simp only at hk1 ⊢
      by_cases e1 : g1 = f
      · have e2 : g2 ≠ f := fun e => hne (by rw [e1, e])
        rw [if_pos e1] at hk1
        rw [if_neg e2]
        intro e
        rcases hl with hl | hl
        · rw [hl] at hk1
          exact h.apart f g2 (fun e => e2 e.symm) (by rw [hx]; rfl) h2' k hk1 e
        · have := hl k hk1
          have := hlt g2 h2' k e
          omega
      · rw [if_neg e1] at hk1
        by_cases e2 : g2 = f
        · rw [if_pos e2]
          intro e
          rcases hl with hl | hl
          · rw [hl] at e
            exact h.apart g1 f e1 h1' (by rw [hx]; rfl) k hk1 e
          · have := hl k e
            have := hlt g1 h1' k hk1
            omega
        · rw [if_neg e2]
          exact h.apart g1 g2 hne h1' h2' k hk1
    · rcases hk with hk | hk
      · exact Nat.lt_of_lt_of_le (h.lt k hk) fr.size
      · exact (hf.own.lt k hk).2
  · rcases hk with hk | hk
    · exact .inl hk
    · rcases hl with hl | hl
      · rw [hl] at hk; exact .inl (hzv k hk)
      · exact .inr (hl k hk)
end
end Go.Proofs.Ythbgcmffpnmbeaa
