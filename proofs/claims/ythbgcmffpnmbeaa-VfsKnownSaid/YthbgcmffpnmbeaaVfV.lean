/- Rename. -/
import Derived.Test.YthbgcmffpnmbeaaVfU
namespace Go.Proofs.Ythbgcmffpnmbeaa
set_option linter.unusedVariables false
set_option linter.unusedSimpArgs false
open Go.RowKit Go.Maps

theorem renS_err {S S1 : Di} {s t : Tx} {r : Int} {fl : Bool} (h : cal S [s, t] = (r, fl, S1)) (hr : r ≠ 0) : renS S s t = (r, S1) := by unfold renS; rw [h]; exact if_pos hr
theorem renS_none {S S1 : Di} {s t : Tx} {fl : Bool} (h : cal S [s, t] = (0, fl, S1)) (hn : S.now s = none) : renS S s t = (10, S1) := by unfold renS; rw [h, hn]; rfl
theorem renS_same {S S1 : Di} {s t : Tx} {fl : Bool} {f : Nat} (h : cal S [s, t] = (0, fl, S1)) (hn : S.now s = some f) (e : s = t) : renS S s t = (0, S1) := by unfold renS; rw [h, hn]; simp [e]
theorem renS_ok {S S1 : Di} {s t : Tx} {fl : Bool} {f : Nat} (h : cal S [s, t] = (0, fl, S1)) (hn : S.now s = some f) (e : ¬ s = t) : renS S s t = (0, S1.made (.ren s t f)) := by unfold renS; rw [h, hn]; simp [e]
set_option maxRecDepth 100000 in
set_option maxHeartbeats 1600000 in
theorem rename_any (w : World) (Z : Nat → Prop) (d N : Nat) (S : Di) (p : Ph) (s t : Tx) (h : DirP w Z d S N p) (hN : N < 1099511627000) (ht : s.length ≤ maxLen) (ht2 : t.length ≤ maxLen) :
    Calls Try.prog 36 #[.pointer (some ⟨d, 0, none⟩), sv s, sv t] w (fun en w' => en = .returned (.int .i64 (renS S s t).1) ∧ Step w w' Z d (renS S s t).2 (N + 3)) := by
  have fr0 : Fr No w ((w.alloc (.cells #[sv s] 9)).alloc (.cells #[sv t] 9)) := ((Fr.refl _ _).alloc _).alloc _
  have h0 := h.widen fr0
  have HC := call2_any h0 (by omega) s t
  rw [show ((w.alloc (.cells #[sv s] 9)).alloc (.cells #[sv t] 9)).heap.size = w.heap.size + 2 by simp] at HC
  have HC := hide HC
  have hdl := h.lt d h.zd
  have fr1 : Fr No w (((w.alloc (.cells #[sv s] 9)).alloc (.cells #[sv t] 9)).alloc (.cells #[sv s, sv t] 9)) := fr0.alloc _
  have hb1 : (((w.alloc (.cells #[sv s] 9)).alloc (.cells #[sv t] 9)).alloc (.cells #[sv s, sv t] 9)).heap[w.heap.size]? = some (.cells #[sv s] 9 (0, 0)) :=
    (((Fr.refl No (w.alloc (.cells #[sv s] 9))).alloc _).alloc _).blk (heap_alloc_new w _) (fun h => h)
  have hb2' : (((w.alloc (.cells #[sv s] 9)).alloc (.cells #[sv t] 9)).alloc (.cells #[sv s, sv t] 9)).heap[w.heap.size + 1]? = some (.cells #[sv t] 9 (0, 0)) := by
    have e := ((Fr.refl No ((w.alloc (.cells #[sv s] 9)).alloc (.cells #[sv t] 9))).alloc (.cells #[sv s, sv t] 9)).blk (heap_alloc_new (w.alloc (.cells #[sv s] 9)) (.cells #[sv t] 9)) (fun h => h)
    rwa [show (w.alloc (.cells #[sv s] 9)).heap.size = w.heap.size + 1 by simp] at e
  obtain ⟨e1, e2, e3, e4, e5⟩ := cal_fs S [s, t]
  have hfx : ∀ f, S.now s = some f → (S.fs f).isSome = true := h.nowf s
  generalize hc : cal S [s, t] = c at *
  obtain ⟨r, fl, S1⟩ := c
  simp only at e1 e2 e3 e4 e5 ⊢
  have HT := hide ht
  have HT2 := hide ht2
  have HB : Hid (∀ w2, DirP w2 (Zw Z w ((w.alloc (.cells #[sv s] 9)).alloc (.cells #[sv t] 9))) d S1 (N + 1) p → Fr (Is d) (((w.alloc (.cells #[sv s] 9)).alloc (.cells #[sv t] 9)).alloc (.cells #[sv s, sv t] 9)) w2 →
      w2.cell? ⟨w.heap.size, 0, none⟩ = some (sv s) ∧ w2.cell? ⟨w.heap.size + 1, 0, none⟩ = some (sv t) ∧ w2.cell? ⟨d, 0, none⟩ = some (.map (some p.nb)) ∧ ∃ D1 n1, Hid (∀ W, Fr No w2 W → MapM W p.nb n1 S1.now D1)) := hide fun w2 hp hf => by
    obtain ⟨n1, D1, _, m1⟩ := hp.now
    refine ⟨?_, ?_, hp.cell rfl, D1, n1, hide fun W f => m1.fr0 f⟩
    · have hb2 := hf.blk hb1 (fun e => by have e' : w.heap.size = d := e; omega)
      rw [cell_of_row w2 _ 0 _ _ _ hb2]; rfl
    · have hb2 := hf.blk hb2' (fun e => by have e' : w.heap.size + 1 = d := e; omega)
      rw [cell_of_row w2 _ 0 _ _ _ hb2]; rfl
  have HMd : Hid (∀ f, S.now s = some f → ∀ w2, DirP w2 (Zw Z w ((w.alloc (.cells #[sv s] 9)).alloc (.cells #[sv t] 9))) d S1 (N + 1) p → Fr (Is d) (((w.alloc (.cells #[sv s] 9)).alloc (.cells #[sv t] 9)).alloc (.cells #[sv s, sv t] 9)) w2 →
      Calls Try.prog 67 #[.pointer (some ⟨d, 0, none⟩), .func (.func 69) #[] #[.pointer (some ⟨w.heap.size, 0, none⟩), .pointer (some ⟨w2.heap.size, 0, none⟩), .pointer (some ⟨w.heap.size + 1, 0, none⟩)]] ((w2.alloc (.cells #[.pointer (some ⟨f, 0, none⟩)] 79)).drew)
        (fun en w' => en = .returned (.int .i64 0) ∧ Step w w' Z d (S1.made (.ren s t f)) (N + 3))) := hide fun f hfn w2 hp hf => by
    have hb2 := hf.blk hb1 (fun e => by have e' : w.heap.size = d := e; omega)
    have hb3 := hf.blk hb2' (fun e => by have e' : w.heap.size + 1 = d := e; omega)
    have hsz : w.heap.size + 3 ≤ w2.heap.size := Nat.le_trans (by simp) hf.size
    have fr : Fr No w2 ((w2.alloc (.cells #[.pointer (some ⟨f, 0, none⟩)] 79)).drew) := ((Fr.refl No w2).alloc _).drew
    have hbf : ((w2.alloc (.cells #[.pointer (some ⟨f, 0, none⟩)] 79)).drew).heap[w2.heap.size]? = some (.cells #[.pointer (some ⟨f, 0, none⟩)] 79 (0, 0)) := heap_alloc_new w2 _
    have hlt := (Array.getElem?_eq_some_iff.1 hbf).1
    refine (made_any _ _ d (N + 1) _ _ (.ren s t f) _ (hp.widen fr) (by omega) ⟨w.heap.size, w2.heap.size, w.heap.size + 1, rfl, ⟨fr.blk hb2 (fun h => h), .inl (.inr ⟨Nat.le_refl _, by simp; omega⟩), HT.out⟩, ⟨hbf, .inr ⟨Nat.le_refl _, hlt⟩⟩, ⟨fr.blk hb3 (fun h => h), .inl (.inr ⟨by omega, by simp⟩), HT2.out⟩⟩ (fun g hg => by
      obtain rfl : f = g := Option.some.inj hg
      rw [e1]; exact hfx f hfn)).mono fun en w' ⟨he, hst⟩ => ⟨he, ?_⟩
    refine Step.narrow ((((fr1.any Z).ts (hf.isZ h.zd))).tr fr) hst (fun k hk => .inl (.inl hk)) (fun k hk => ?_)
    rcases hk with (hk | hk) | hk
    · exact .inl hk
    · exact .inr hk.1
    · exact .inr (by omega)
  have HF1 := hide fr1
  have HE := hide e2
  have HCl := hide hc
  clear h hc ht ht2 e1 e2 e3 e4 e5 h0 fr0 fr1 hb1 hb2' hfx
  by_cases hr : r = 0
  · subst hr
    unfold RetC at HC
    cases hn : S1.now s with
    | none =>
      have HNo := hide hn
      rw [HE.out] at hn
      rw [renS_none HCl.out hn]
      clear hn
      unfold sv at *
      go_enter Try.func36, Try.ntmps36
      go_wp2_with (go_at_call 43; refine HC.out.mono ?_; rintro e w2 ⟨rfl, hp, hf⟩; have HP := hide hp; have HF := hide hf; obtain ⟨kb, kb2, k0, D1, n1, HM⟩ := HB.out w2 hp hf; have hl := (HM.out _ (Fr.refl No w2).drew).look HT.out; have hl2 := (HM.out _ (((Fr.refl No w2).alloc (.cells #[.pointer none] 79)).drew)).look HT.out; unfold sv at hl hl2; rw [HNo.out] at hl hl2; unfold optV at hl hl2; have hs1 : w.heap.size < w2.heap.size := Nat.lt_of_lt_of_le (by simp; omega) hf.size; have hs2 : w.heap.size + 1 < w2.heap.size := Nat.lt_of_lt_of_le (by simp) hf.size; have hs3 : d < w2.heap.size := (by omega); clear hp hf)
      go_region
      all_goals
        go_wp2
        go_ret
        exact ⟨rfl, Step.narrow (HF1.out.any Z) (Step.of ((HP.out.mono (by omega)).fr0 ((Fr.refl No w2).alloc _).drew) (((HF.out.isZ HP.out.zd).alloc _).drew)) (fun _ h => .inl h) (fun k hk => hk.imp id fun h => h.1)⟩
    | some f =>
      have HNo := hide hn
      rw [HE.out] at hn
      have HMf := hide (HMd.out f hn)
      clear HMd
      by_cases hst : s = t
      · rw [renS_same HCl.out hn hst]
        have hq : (s == t) = true := by simp [hst]
        clear hn hst
        unfold sv at *
        go_enter Try.func36, Try.ntmps36
        go_wp2_with (go_at_call 43; refine HC.out.mono ?_; rintro e w2 ⟨rfl, hp, hf⟩; have HP := hide hp; have HF := hide hf; obtain ⟨kb, kb2, k0, D1, n1, HM⟩ := HB.out w2 hp hf; have hl := (HM.out _ (Fr.refl No w2).drew).look HT.out; have hl2 := (HM.out _ (((Fr.refl No w2).alloc (.cells #[.pointer none] 79)).drew)).look HT.out; unfold sv at hl hl2; rw [HNo.out] at hl hl2; unfold optV fpt at hl hl2; have hs1 : w.heap.size < w2.heap.size := Nat.lt_of_lt_of_le (by simp; omega) hf.size; have hs2 : w.heap.size + 1 < w2.heap.size := Nat.lt_of_lt_of_le (by simp) hf.size; have hs3 : d < w2.heap.size := (by omega); clear hp hf)
        go_region
        all_goals
          go_wp2
          go_ret
          exact ⟨rfl, Step.narrow (HF1.out.any Z) (Step.of ((HP.out.mono (by omega)).fr0 ((Fr.refl No w2).alloc _).drew) (((HF.out.isZ HP.out.zd).alloc _).drew)) (fun _ h => .inl h) (fun k hk => hk.imp id fun h => h.1)⟩
      · rw [renS_ok HCl.out hn hst]
        have hq : (s == t) = false := by simp [hst]
        clear hn hst
        unfold sv at *
        go_enter Try.func36, Try.ntmps36
        go_wp2_with (go_at_call 43; refine HC.out.mono ?_; rintro e w2 ⟨rfl, hp, hf⟩; have HP := hide hp; have HF := hide hf; obtain ⟨kb, kb2, k0, D1, n1, HM⟩ := HB.out w2 hp hf; have hl := (HM.out _ (Fr.refl No w2).drew).look HT.out; have hl2 := (HM.out _ (((Fr.refl No w2).alloc (.cells #[.pointer none] 79)).drew)).look HT.out; unfold sv at hl hl2; rw [HNo.out] at hl hl2; unfold optV fpt at hl hl2; have hs1 : w.heap.size < w2.heap.size := Nat.lt_of_lt_of_le (by simp; omega) hf.size; have hs2 : w.heap.size + 1 < w2.heap.size := Nat.lt_of_lt_of_le (by simp) hf.size; have hs3 : d < w2.heap.size := (by omega); have hmd := HMf.out w2 hp hf; clear hp hf)
        go_region
        all_goals
          go_wp2_with (go_at_call 67; refine hmd.mono ?_; rintro e w3 ⟨rfl, hst⟩; have HSt := hide hst; clear hst)
          go_ret
          exact ⟨rfl, HSt.out⟩
  · have hr' : (r != 0) = true := by simp [hr]
    rw [renS_err HCl.out hr]
    unfold RetC at HC
    unfold sv at *
    go_enter Try.func36, Try.ntmps36
    go_wp2_with (go_at_call 43; refine HC.out.mono ?_; rintro e w2 ⟨rfl, hp, hf⟩; have HP := hide hp; have HF := hide hf; clear hp hf)
    go_ret
    exact ⟨rfl, Step.narrow (HF1.out.any Z) (Step.of (HP.out.mono (by omega)) (HF.out.isZ HP.out.zd)) (fun _ h => .inl h) (fun k hk => hk.imp id fun h => h.1)⟩
end Go.Proofs.Ythbgcmffpnmbeaa
