/- Delete. -/
import Derived.Test.YthbgcmffpnmbeaaVfT
namespace Go.Proofs.Ythbgcmffpnmbeaa
set_option linter.unusedVariables false
set_option linter.unusedSimpArgs false
open Go.RowKit Go.Maps

theorem delS_err {S S1 : Di} {t : Tx} {r : Int} {fl : Bool} (h : cal S [t] = (r, fl, S1)) (hr : r ≠ 0) : delS S t = (r, S1) := by unfold delS; rw [h]; exact if_pos hr
theorem delS_none {S S1 : Di} {t : Tx} {fl : Bool} (h : cal S [t] = (0, fl, S1)) (hn : S.now t = none) : delS S t = (10, S1) := by unfold delS; rw [h, hn]; rfl
theorem delS_ok {S S1 : Di} {t : Tx} {fl : Bool} {f : Nat} (h : cal S [t] = (0, fl, S1)) (hn : S.now t = some f) : delS S t = (0, S1.made (.del t)) := by unfold delS; rw [h, hn]; rfl
set_option maxRecDepth 100000 in
set_option maxHeartbeats 1600000 in
theorem delete_any (w : World) (Z : Nat → Prop) (d N : Nat) (S : Di) (p : Ph) (t : Tx) (h : DirP w Z d S N p) (hN : N < 1099511627000) (ht : t.length ≤ maxLen) :
    Calls Try.prog 38 #[.pointer (some ⟨d, 0, none⟩), sv t] w (fun en w' => en = .returned (.int .i64 (delS S t).1) ∧ Step w w' Z d (delS S t).2 (N + 3)) := by
  have fr0 : Fr No w (w.alloc (.cells #[sv t] 9)) := (Fr.refl _ _).alloc _
  have h0 := h.widen fr0
  have HC := call1_any h0 (by omega) t
  rw [show (w.alloc (.cells #[sv t] 9)).heap.size = w.heap.size + 1 by simp] at HC
  have HC := hide HC
  have hdl := h.lt d h.zd
  have fr1 : Fr No w ((w.alloc (.cells #[sv t] 9)).alloc (.cells #[sv t] 9)) := fr0.alloc _
  have hb1 : ((w.alloc (.cells #[sv t] 9)).alloc (.cells #[sv t] 9)).heap[w.heap.size]? = some (.cells #[sv t] 9 (0, 0)) :=
    ((Fr.refl No (w.alloc (.cells #[sv t] 9))).alloc _).blk (heap_alloc_new w _) (fun h => h)
  obtain ⟨e1, e2, e3, e4, e5⟩ := cal_fs S [t]
  generalize hc : cal S [t] = c at *
  obtain ⟨r, fl, S1⟩ := c
  simp only at e1 e2 e3 e4 e5 ⊢
  have HT := hide ht
  have HB : Hid (∀ w2, DirP w2 (Zw Z w (w.alloc (.cells #[sv t] 9))) d S1 (N + 1) p → Fr (Is d) ((w.alloc (.cells #[sv t] 9)).alloc (.cells #[sv t] 9)) w2 →
      w2.cell? ⟨w.heap.size, 0, none⟩ = some (sv t) ∧ w2.cell? ⟨d, 0, none⟩ = some (.map (some p.nb)) ∧ ∃ D1 n1, Hid (∀ W, Fr No w2 W → MapM W p.nb n1 S1.now D1)) := hide fun w2 hp hf => by
    obtain ⟨n1, D1, _, m1⟩ := hp.now
    refine ⟨?_, hp.cell rfl, D1, n1, hide fun W f => m1.fr0 f⟩
    have hb2 := hf.blk hb1 (fun e => by have e' : w.heap.size = d := e; omega)
    rw [cell_of_row w2 _ 0 _ _ _ hb2]; rfl
  have HMd : Hid (∀ w2, DirP w2 (Zw Z w (w.alloc (.cells #[sv t] 9))) d S1 (N + 1) p → Fr (Is d) ((w.alloc (.cells #[sv t] 9)).alloc (.cells #[sv t] 9)) w2 →
      ∀ q, Calls Try.prog 67 #[.pointer (some ⟨d, 0, none⟩), .func (.func 70) #[] #[.pointer (some ⟨w.heap.size, 0, none⟩)]] (w2.drewN q)
        (fun en w' => en = .returned (.int .i64 0) ∧ Step w w' Z d (S1.made (.del t)) (N + 3))) := hide fun w2 hp hf q => by
    have hb2 := hf.blk hb1 (fun e => by have e' : w.heap.size = d := e; omega)
    have fr : Fr No w2 (w2.drewN q) := (Fr.refl No w2).drewN q
    refine (made_any _ _ d (N + 1) _ _ (.del t) _ (hp.fr0 fr) (by omega) ⟨w.heap.size, rfl, fr.blk hb2 (fun h => h), .inr ⟨Nat.le_refl _, by simp⟩, HT.out⟩ (fun g hg => by cases hg)).mono fun en w' ⟨he, hst⟩ => ⟨he, ?_⟩
    exact Step.narrow ((((fr1.any Z).ts (hf.isZ h.zd))).tr fr) hst (fun k hk => .inl hk) (fun k hk => hk.imp id fun h => h.1)
  have HF1 := hide fr1
  have HE := hide e2
  have HCl := hide hc
  clear h hc ht e1 e2 e3 e4 e5 h0 fr0 fr1 hb1
  by_cases hr : r = 0
  · subst hr
    unfold RetC at HC
    cases hn : S1.now t with
    | none =>
      have HNo := hide hn
      rw [HE.out] at hn
      rw [delS_none HCl.out hn]
      clear hn
      unfold sv at *
      go_enter Try.func38, Try.ntmps38
      go_wp2_with (go_at_call 43; refine HC.out.mono ?_; rintro e w2 ⟨rfl, hp, hf⟩; have HP := hide hp; have HF := hide hf; obtain ⟨kb, k0, D1, n1, HM⟩ := HB.out w2 hp hf; have hl := fun q => (HM.out _ ((Fr.refl No w2).drewN q)).look HT.out; unfold sv at hl; rw [HNo.out] at hl; unfold optV at hl; clear hp hf)
      go_quiet (fail)
      go_wp2
      go_ret
      exact ⟨rfl, Step.narrow (HF1.out.any Z) (Step.of ((HP.out.mono (by omega)).fr0 ((Fr.refl No w2).drewN _)) ((HF.out.isZ HP.out.zd).drewN _)) (fun _ h => .inl h) (fun k hk => hk.imp id fun h => h.1)⟩
    | some f =>
      have HNo := hide hn
      rw [HE.out] at hn
      rw [delS_ok HCl.out hn]
      clear hn
      unfold sv at *
      go_enter Try.func38, Try.ntmps38
      go_wp2_with (go_at_call 43; refine HC.out.mono ?_; rintro e w2 ⟨rfl, hp, hf⟩; have HP := hide hp; have HF := hide hf; obtain ⟨kb, k0, D1, n1, HM⟩ := HB.out w2 hp hf; have hl := fun q => (HM.out _ ((Fr.refl No w2).drewN q)).look HT.out; unfold sv at hl; rw [HNo.out] at hl; unfold optV fpt at hl; have hmd := HMd.out w2 hp hf; clear hp hf)
      go_quiet (fail)
      go_wp2_with (go_at_call 67; refine (hmd _).mono ?_; rintro e w3 ⟨rfl, hst⟩; have HSt := hide hst; clear hst)
      go_ret
      exact ⟨rfl, HSt.out⟩
  · have hr' : (r != 0) = true := by simp [hr]
    rw [delS_err HCl.out hr]
    unfold RetC at HC
    unfold sv at *
    go_enter Try.func38, Try.ntmps38
    go_wp2_with (go_at_call 43; refine HC.out.mono ?_; rintro e w2 ⟨rfl, hp, hf⟩; have HP := hide hp; have HF := hide hf; clear hp hf)
    go_ret
    exact ⟨rfl, Step.narrow (HF1.out.any Z) (Step.of (HP.out.mono (by omega)) (HF.out.isZ HP.out.zd)) (fun _ h => .inl h) (fun k hk => hk.imp id fun h => h.1)⟩
end Go.Proofs.Ythbgcmffpnmbeaa
