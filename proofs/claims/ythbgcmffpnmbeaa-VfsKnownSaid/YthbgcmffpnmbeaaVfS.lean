/- Sync, SyncDir's kin: a file's bytes are safe. -/
import Derived.Test.YthbgcmffpnmbeaaVfN
namespace Go.Proofs.Ythbgcmffpnmbeaa
set_option linter.unusedVariables false
set_option linter.unusedSimpArgs false
open Go.RowKit Go.Maps

theorem appF_some {S : Di} {t : Tx} {f : Nat} {x : Fi} (h1 : S.now t = some f) (h2 : S.fs f = some x) : appF S t = some (f, x) := by unfold appF; rw [h1]; simp [h2]
theorem appF_none {S : Di} {t : Tx} (h1 : S.now t = none) : appF S t = none := by unfold appF; rw [h1]
section
variable {w w' : World} {Z : Nat → Prop} {d N f : Nat} {S : Di} {p : Ph}
/-- a file that has a name, in memory. -/
structure FileQ (w : World) (p : Ph) (f : Nat) (x : Fi) (A : Option Addr) (c : Nat) : Prop where
  v : p.fv f = .slice A x.b.length c
  c0 : w.cell? ⟨f, 0, none⟩ = some (.slice A x.b.length c)
  c1 : w.cell? ⟨f, 1, none⟩ = some (.int .i64 (x.s : Nat))
  g0 : w.frozen? ⟨f, 0, none⟩ = false
  g1 : w.frozen? ⟨f, 1, none⟩ = false
  le : x.b.length ≤ c
  most : c ≤ maxLen
theorem DirP.file (h : DirP w Z d S N p) {x : Fi} (hx : S.fs f = some x) : ∃ A c, FileQ w p f x A c := by
  obtain ⟨hf, _, _⟩ := h.files f x hx
  obtain ⟨A, c, hv, h1, h2, _⟩ := hf.own.form
  refine ⟨A, c, hv, ?_, ?_, frozen_of_row w f 0 _ _ hf.cell, frozen_of_row w f 1 _ _ hf.cell, h1, h2⟩
  · rw [cell_of_row w f 0 _ _ _ hf.cell, hv]; rfl
  · rw [cell_of_row w f 1 _ _ _ hf.cell]; rfl
theorem DirP.synced (h : DirP w Z d S N p) {x : Fi} (hx : S.fs f = some x) : Step w (w.setCell ⟨f, 1, none⟩ (.int .i64 (x.b.length : Nat))) Z d (S.setF f ⟨x.b, x.b.length⟩) N := by
  obtain ⟨hf, _, _⟩ := h.files f x hx
  have fr : Fr (Is f) w (w.setCell ⟨f, 1, none⟩ (.int .i64 (x.b.length : Nat))) := (Fr.refl _ _).put 1 _
  refine h.fileW hx (fr.mono fun i _ hi => .inl hi) (v' := p.fv f) ⟨?_, own_frK hf.own fr (OfK.is hf.cell) (by simp [kd]), Nat.le_refl _, hf.most⟩ (.inl rfl)
  rw [heap_setCell_same w f 1 _ _ _ hf.cell]
  rfl
end
set_option maxRecDepth 100000 in
set_option maxHeartbeats 800000 in
theorem sync_any (w : World) (Z : Nat → Prop) (d N : Nat) (S : Di) (p : Ph) (t : Tx) (h : DirP w Z d S N p) (hN : N < 1099511627776) (ht : t.length ≤ maxLen) :
    Calls Try.prog 12 #[.pointer (some ⟨d, 0, none⟩), sv t] w (fun en w' => en = .returned (.int .i64 (synS S t).1) ∧ Step w w' Z d (synS S t).2 (N + 3)) := by
  have HC := hide (call1_any h hN t)
  have HZ := hide h.zd
  obtain ⟨e1, e2, e3, e4, e5⟩ := cal_fs S [t]
  unfold synS
  generalize hc : cal S [t] = c at *
  obtain ⟨r, fl, S1⟩ := c
  simp only at e1 e2 e3 e4 e5 ⊢
  have HT := hide ht
  have HE : Hid (appF S t = appF S1 t) := hide (by unfold appF; rw [e1, e2])
  have hfx : ∀ f, S1.now t = some f → ∃ x, S1.fs f = some x := fun f hf => Option.isSome_iff_exists.1 (by rw [e1]; exact h.nowf t f (by rw [← e2]; exact hf))
  rw [HE.out]
  clear h hc ht e1 e2 e3 e4 e5
  by_cases hr : r = 0
  · subst hr
    rw [if_neg (by simp)]
    unfold RetC at HC
    cases hn : S1.now t with
    | none =>
      rw [appF_none hn]
      have HNo := hide hn
      clear hn hfx
      unfold sv at *
      go_enter Try.func12, Try.ntmps12
      go_wp2_with (go_at_call 43; refine HC.out.mono ?_; rintro e w2 ⟨rfl, hp, hf⟩; have HP := hide hp; have HF := hide hf; have k0 : w2.cell? ⟨d, 0, none⟩ = some (.map (some p.nb)) := hp.cell rfl; obtain ⟨n1, D1, a1, m1⟩ := hp.now; have hl := m1.look HT.out; unfold sv at hl; rw [HNo.out] at hl; unfold optV at hl; clear hp hf m1)
      go_ret
      exact ⟨rfl, (Step.of (HP.out.mono (by omega)) ((((Fr.refl No w).alloc _).any Z).ts (HF.out.isZ HZ.out)))⟩
    | some f =>
      obtain ⟨x, hx⟩ := hfx f hn
      rw [appF_some hn hx]
      have HNo := hide hn
      have HX := hide hx
      clear hn hx hfx
      unfold sv at *
      go_enter Try.func12, Try.ntmps12
      go_wp2_with (go_at_call 43; refine HC.out.mono ?_; rintro e w2 ⟨rfl, hp, hf⟩; have HP := hide hp; have HF := hide hf; obtain ⟨A9, c9, hq⟩ := hp.file HX.out; have q0 := hq.c0; have q1 := hq.c1; have z1 := hq.g1; have k0 : w2.cell? ⟨d, 0, none⟩ = some (.map (some p.nb)) := hp.cell rfl; obtain ⟨n1, D1, a1, m1⟩ := hp.now; have hl := m1.look HT.out; unfold sv at hl; rw [HNo.out] at hl; unfold optV fpt at hl; clear hp hf m1 hq)
      go_ret
      exact ⟨rfl, ((HP.out.synced HX.out).ahead ((((Fr.refl No w).alloc _).any Z).ts (HF.out.isZ HZ.out))).mono (by omega)⟩
  · have hr' : (r != 0) = true := by simp [hr]
    rw [if_pos hr]
    clear hfx
    unfold RetC at HC
    unfold sv at *
    go_enter Try.func12, Try.ntmps12
    go_wp2_with (go_at_call 43; refine HC.out.mono ?_; rintro e w2 ⟨rfl, hp, hf⟩; have HP := hide hp; have HF := hide hf; clear hp hf)
    go_ret
    exact ⟨rfl, (Step.of (HP.out.mono (by omega)) ((((Fr.refl No w).alloc _).any Z).ts (HF.out.isZ HZ.out)))⟩
end Go.Proofs.Ythbgcmffpnmbeaa
