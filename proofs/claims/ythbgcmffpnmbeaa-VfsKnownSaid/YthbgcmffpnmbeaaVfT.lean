/- Create. -/
import Derived.Test.YthbgcmffpnmbeaaVfS
namespace Go.Proofs.Ythbgcmffpnmbeaa
set_option linter.unusedVariables false
set_option linter.unusedSimpArgs false
open Go.RowKit Go.Maps

theorem creS_err {S S1 : Di} {t : Tx} {r : Int} {fl : Bool} {f c : Nat} (h : cal S [t] = (r, fl, S1)) (hr : r ≠ 0) : creS S t f c = (r, S1) := by unfold creS; rw [h]; exact if_pos hr
theorem creS_has {S S1 : Di} {t : Tx} {fl : Bool} {f c : Nat} (h : cal S [t] = (0, fl, S1)) (hn : (S.now t).isSome = true) : creS S t f c = (11, S1) := by
  unfold creS; rw [h]; simp [hn]
theorem creS_long {S S1 : Di} {t : Tx} {fl : Bool} {f c : Nat} (h : cal S [t] = (0, fl, S1)) (hn : S.now t = none) (hc : 4096 ≤ c) : creS S t f c = (3, S1) := by
  unfold creS; rw [h]; simp [hn, hc]
theorem creS_ok {S S1 : Di} {t : Tx} {fl : Bool} {f c : Nat} (h : cal S [t] = (0, fl, S1)) (hn : S.now t = none) (hc : ¬ 4096 ≤ c) : creS S t f c = (0, (S1.setF f ⟨[], 0⟩).made (.put t f)) := by
  unfold creS; rw [h]; simp [hn]; omega
/-- with what was laid since. -/
def Zw (Z : Nat → Prop) (w w' : World) : Nat → Prop := fun k => Z k ∨ (w.heap.size ≤ k ∧ k < w'.heap.size)
section
variable {w w' w5 : World} {Z Z5 : Nat → Prop} {d N f : Nat} {S : Di} {p : Ph}
theorem Step.narrow (fr : Fr Z w w5) (h : Step w5 w' Z5 d S N) (h1 : ∀ k, Z k → Z5 k) (h2 : ∀ k, Z5 k → Z k ∨ w.heap.size ≤ k) : Step w w' Z d S N := by
  obtain ⟨Z', hd, f1, z1, z2⟩ := h
  refine ⟨Z', hd, fr.trans f1 fun i hi hz => ?_, fun k hk => z1 k (h1 k hk), fun k hk => ?_⟩
  · rcases h2 i hz with h | h
    · exact h
    · omega
  · rcases z2 k hk with h | h
    · exact h2 k h
    · exact .inr (Nat.le_trans fr.size h)
theorem DirP.widen (h : DirP w Z d S N p) (fr : Fr No w w') : DirP w' (Zw Z w w') d S N p := by
  have h0 := h.fr0 fr
  obtain ⟨vs, o1, c1⟩ := h0.chs
  exact { h0 with
    chs := ⟨vs, o1, fun j c v hc hv => (c1 j c v hc hv).fr (Fr.refl No w') (fun _ _ h => h) (fun _ h => .inl h)⟩
    files := fun g x hx => ⟨(h0.files g x hx).1, .inl (h0.files g x hx).2.1, fun k hk => .inl ((h0.files g x hx).2.2 k hk)⟩
    zd := .inl h0.zd
    znb := .inl h0.znb
    zmb := .inl h0.zmb
    zcv := fun k hk => .inl (h0.zcv k hk)
    lt := fun k hk => by
      rcases hk with hk | hk
      · exact h0.lt k hk
      · exact hk.2 }
/-- A file more. -/
theorem DirP.newF (h : DirP w Z d S N p) (fr : Fr No w w') (hf : w'.heap[f]? = some (.cells #[.slice none 0 0, .int .i64 0] 83 (0, 0))) (hl : w.heap.size ≤ f) :
    S.fs f = none ∧ DirP w' (Zw Z w w') d (S.setF f ⟨[], 0⟩) N { p with fv := fun g => if g = f then .slice none 0 0 else p.fv g } := by
  have hno : S.fs f = none := by
    cases hx : S.fs f with
    | none => rfl
    | some x =>
      have := h.lt f (h.files f x hx).2.1
      omega
  have h0 := h.widen fr
  have hsome : ∀ g, (S.fs g).isSome = true → ((S.setF f ⟨[], 0⟩).fs g).isSome = true := fun g hg => by
    by_cases e : g = f
    · simp [Di.setF, e]
    · simp [Di.setF, e, hg]
  have hback : ∀ g, g ≠ f → ((S.setF f ⟨[], 0⟩).fs g).isSome = true → (S.fs g).isSome = true := fun g e hg => by simpa [Di.setF, e] using hg
  refine ⟨hno, ⟨h0.dir, h0.now, h0.dur, h0.ne, h0.chs, fun g x hx => ?_, fun g1 g2 hne h1 h2 k hk => ?_, fun k g hg => hsome g (h0.nowf k g hg), fun k g hg => hsome g (h0.durf k g hg), fun c hc g hg => hsome g (h0.chf c hc g hg), h0.zd, h0.znb, h0.zmb, h0.zcv, h0.lt, h0.calls⟩⟩
  · by_cases e : g = f
    · subst e
      have : (⟨[], 0⟩ : Fi) = x := by simpa [Di.setF] using hx
      subst this
      simp only [if_true]
      exact ⟨⟨hf, Own.nil _ _ _ _, Nat.le_refl _, Nat.zero_le _⟩, .inr ⟨hl, (Array.getElem?_eq_some_iff.1 hf).1⟩, fun k hk => by simp [Value.ownBlock] at hk⟩
    · have hx' : S.fs g = some x := by simpa [Di.setF, e] using hx
      simp only [if_neg e]
      exact h0.files g x hx'
  · simp only at hk ⊢
    by_cases e1 : g1 = f
    · rw [if_pos e1] at hk; simp [Value.ownBlock] at hk
    · rw [if_neg e1] at hk
      by_cases e2 : g2 = f
      · rw [if_pos e2]; simp [Value.ownBlock]
      · rw [if_neg e2]
        exact h0.apart g1 g2 hne (hback g1 e1 h1) (hback g2 e2 h2) k hk
end

set_option maxRecDepth 100000 in
set_option maxHeartbeats 1600000 in
theorem create_any (w : World) (Z : Nat → Prop) (d N : Nat) (S : Di) (p : Ph) (t : Tx) (h : DirP w Z d S N p) (hN : N < 1099511627000) (ht : t.length ≤ maxLen) :
    Calls Try.prog 35 #[.pointer (some ⟨d, 0, none⟩), sv t] w (fun en w' => ∃ f c, SizeM S.now c ∧ S.fs f = none ∧ en = .returned (.int .i64 (creS S t f c).1) ∧ Step w w' Z d (creS S t f c).2 (N + 3)) := by
  obtain ⟨n0, D0, a0, m0⟩ := h.now
  obtain ⟨cn, hcn⟩ : ∃ c, SizeM S.now c := ⟨_, m0.size⟩
  have fr0 : Fr No w (w.alloc (.cells #[sv t] 9)) := (Fr.refl _ _).alloc _
  have h0 := h.widen fr0
  have HC := call1_any h0 (by omega) t
  rw [show (w.alloc (.cells #[sv t] 9)).heap.size = w.heap.size + 1 by simp] at HC
  have HC := hide HC
  have HZ := hide h.zd
  have hdl := h.lt d h.zd
  have fr1 : Fr No w ((w.alloc (.cells #[sv t] 9)).alloc (.cells #[sv t] 9)) := fr0.alloc _
  have hb1 : ((w.alloc (.cells #[sv t] 9)).alloc (.cells #[sv t] 9)).heap[w.heap.size]? = some (.cells #[sv t] 9 (0, 0)) :=
    ((Fr.refl No (w.alloc (.cells #[sv t] 9))).alloc _).blk (heap_alloc_new w _) (fun h => h)
  obtain ⟨e1, e2, e3, e4, e5⟩ := cal_fs S [t]
  have HFr := hide (show S.fs w.heap.size = none by
    cases hx : S.fs w.heap.size with
    | none => rfl
    | some x => have := h.lt _ (h.files _ x hx).2.1; omega)
  generalize hc : cal S [t] = c at *
  obtain ⟨r, fl, S1⟩ := c
  simp only at e1 e2 e3 e4 e5 ⊢
  have HT := hide ht
  have HB : Hid (∀ w2, DirP w2 (Zw Z w (w.alloc (.cells #[sv t] 9))) d S1 (N + 1) p → Fr (Is d) ((w.alloc (.cells #[sv t] 9)).alloc (.cells #[sv t] 9)) w2 →
      w2.cell? ⟨w.heap.size, 0, none⟩ = some (sv t) ∧ w2.cell? ⟨d, 0, none⟩ = some (.map (some p.nb)) ∧ ∃ D1 n1, Hid (∀ W, Fr No w2 W → MapM W p.nb n1 S1.now D1)) := hide fun w2 hp hf => by
    obtain ⟨n1, D1, _, m1⟩ := hp.now
    refine ⟨?_, hp.cell rfl, D1, n1, hide fun W f => m1.fr0 f⟩
    have hb2 := hf.blk hb1 (fun e => by have e' : w.heap.size = d := e; omega)
    rw [cell_of_row w2 _ 0 _ _ _ hb2]; rfl
  have HMd : Hid (∀ w2, DirP w2 (Zw Z w (w.alloc (.cells #[sv t] 9))) d S1 (N + 1) p → Fr (Is d) ((w.alloc (.cells #[sv t] 9)).alloc (.cells #[sv t] 9)) w2 → S.fs w2.heap.size = none ∧
      ∀ q, Calls Try.prog 67 #[.pointer (some ⟨d, 0, none⟩), .func (.func 68) #[] #[.pointer (some ⟨w2.heap.size + 1, 0, none⟩), .pointer (some ⟨w.heap.size, 0, none⟩)]]
        (((w2.drewN q).alloc (.cells #[.slice none 0 0, .int .i64 0] 83)).alloc (.cells #[.pointer (some ⟨w2.heap.size, 0, none⟩)] 79))
        (fun en w' => en = .returned (.int .i64 0) ∧ Step w w' Z d ((S1.setF w2.heap.size ⟨[], 0⟩).made (.put t w2.heap.size)) (N + 3))) := hide fun w2 hp hf => by
    have hb2 := hf.blk hb1 (fun e => by have e' : w.heap.size = d := e; omega)
    have hsz : w.heap.size < w2.heap.size := Nat.lt_of_lt_of_le (by simp; omega) hf.size
    refine ⟨?_, fun q => ?_⟩
    · cases hx : S.fs w2.heap.size with
      | none => rfl
      | some x => have := hp.lt _ (hp.files _ x (by rw [e1]; exact hx)).2.1; omega
    · have fr : Fr No w2 (((w2.drewN q).alloc (.cells #[.slice none 0 0, .int .i64 0] 83)).alloc (.cells #[.pointer (some ⟨w2.heap.size, 0, none⟩)] 79)) := (((Fr.refl No w2).drewN q).alloc _).alloc _
      have hfi : (((w2.drewN q).alloc (.cells #[.slice none 0 0, .int .i64 0] 83)).alloc (.cells #[.pointer (some ⟨w2.heap.size, 0, none⟩)] 79)).heap[w2.heap.size]? = some (.cells #[.slice none 0 0, .int .i64 0] 83 (0, 0)) :=
        ((Fr.refl No ((w2.drewN q).alloc (.cells #[.slice none 0 0, .int .i64 0] 83))).alloc _).blk (heap_alloc_new (w2.drewN q) _) (fun h => h)
      have hbf : (((w2.drewN q).alloc (.cells #[.slice none 0 0, .int .i64 0] 83)).alloc (.cells #[.pointer (some ⟨w2.heap.size, 0, none⟩)] 79)).heap[w2.heap.size + 1]? = some (.cells #[.pointer (some ⟨w2.heap.size, 0, none⟩)] 79 (0, 0)) := by
        have e := heap_alloc_new ((w2.drewN q).alloc (.cells #[.slice none 0 0, .int .i64 0] 83)) (.cells #[.pointer (some ⟨w2.heap.size, 0, none⟩)] 79)
        rwa [show ((w2.drewN q).alloc (.cells #[.slice none 0 0, .int .i64 0] 83)).heap.size = w2.heap.size + 1 by simp] at e
      have hlt := (Array.getElem?_eq_some_iff.1 hbf).1
      have hb5 := fr.blk hb2 (fun h => h)
      obtain ⟨hno, hnew⟩ := hp.newF fr hfi (Nat.le_refl _)
      refine (made_any _ _ d (N + 1) _ _ (.put t w2.heap.size) _ hnew (by omega) ⟨w2.heap.size + 1, w.heap.size, rfl, ⟨hbf, .inr ⟨by omega, hlt⟩⟩, hb5, .inl (.inr ⟨Nat.le_refl _, by simp⟩), HT.out⟩ (fun g hg => ?_)).mono fun en w' ⟨he, hst⟩ => ⟨he, ?_⟩
      · obtain rfl : w2.heap.size = g := Option.some.inj hg
        simp [Di.setF]
      · refine Step.narrow ((((fr1.any Z).ts (hf.isZ h.zd))).tr fr) hst (fun k hk => .inl (.inl hk)) (fun k hk => ?_)
        rcases hk with (hk | hk) | hk
        · exact .inl hk
        · exact .inr hk.1
        · exact .inr (by omega)
  have HB1 := hide hb1
  have HF1 := hide fr1
  have HE := hide e2
  have HCl := hide hc
  have HEf := hide e1
  clear h hc ht e1 e2 e3 e4 e5 h0 fr0 fr1 hb1 m0
  by_cases hr : r = 0
  · subst hr
    unfold RetC at HC
    cases hn : S1.now t with
    | some f =>
      have HNo := hide hn
      rw [HE.out] at hn
      have HQ := hide (fun f' => creS_has (f := f') (c := cn) HCl.out (by rw [hn]; rfl))
      clear hn
      unfold sv at *
      go_enter Try.func35, Try.ntmps35
      go_wp2_with (go_at_call 43; refine HC.out.mono ?_; rintro e w2 ⟨rfl, hp, hf⟩; have HP := hide hp; have HF := hide hf; obtain ⟨kb, k0, D1, n1, HM⟩ := HB.out w2 hp hf; have hl := fun q => (HM.out _ ((Fr.refl No w2).drewN q)).look HT.out; unfold sv at hl; rw [HNo.out] at hl; unfold optV fpt at hl; clear hp hf)
      go_quiet (fail)
      go_wp2
      go_ret
      exact ⟨w.heap.size, cn, hcn, HFr.out, by rw [HQ.out]; rfl, by rw [HQ.out]; exact Step.narrow (HF1.out.any Z) (Step.of ((HP.out.mono (by omega)).fr0 ((Fr.refl No w2).drewN _)) ((HF.out.isZ HP.out.zd).drewN _)) (fun _ h => .inl h) (fun k hk => hk.imp id fun h => h.1)⟩
    | none =>
      have HNo := hide hn
      rw [HE.out] at hn
      by_cases h4 : 4096 ≤ cn
      · have HQ := hide (fun f' => creS_long (f := f') HCl.out hn h4)
        have d4 : decide ((4096 : Int) ≤ (cn : Int)) = true := decide_eq_true (by omega)
        clear hn
        unfold sv at *
        go_enter Try.func35, Try.ntmps35
        go_wp2_with (go_at_call 43; refine HC.out.mono ?_; rintro e w2 ⟨rfl, hp, hf⟩; have HP := hide hp; have HF := hide hf; obtain ⟨kb, k0, D1, n1, HM⟩ := HB.out w2 hp hf; have hl := fun q => (HM.out _ ((Fr.refl No w2).drewN q)).look HT.out; unfold sv at hl; rw [HNo.out] at hl; unfold optV at hl; have hsz : Maps.size D1 = cn := SizeM.uniq (HM.out _ (Fr.refl No w2)).size (by rw [HE.out]; exact hcn); have HK := hide hsz; clear hp hf hsz)
        go_quiet (fail)
        go_wp2_with (at_len; refine wpList_len_own _ rfl _ 68 rfl 9 79 Try.underlying68 fileR _ n1 D1 rfl (HM.out _ ((Fr.refl No w2).drewN _)).own ?_; rw [HK.out])
        go_ret
        exact ⟨w.heap.size, cn, hcn, HFr.out, by rw [HQ.out]; rfl, by rw [HQ.out]; exact Step.narrow (HF1.out.any Z) (Step.of ((HP.out.mono (by omega)).fr0 ((Fr.refl No w2).drewN _)) ((HF.out.isZ HP.out.zd).drewN _)) (fun _ h => .inl h) (fun k hk => hk.imp id fun h => h.1)⟩
      · have HQ := hide (fun f' => creS_ok (f := f') HCl.out hn h4)
        have d4 : decide ((4096 : Int) ≤ (cn : Int)) = false := decide_eq_false (by omega)
        clear hn
        unfold sv at *
        go_enter Try.func35, Try.ntmps35
        go_wp2_with (go_at_call 43; refine HC.out.mono ?_; rintro e w2 ⟨rfl, hp, hf⟩; have HP := hide hp; have HF := hide hf; obtain ⟨kb, k0, D1, n1, HM⟩ := HB.out w2 hp hf; have hl := fun q => (HM.out _ ((Fr.refl No w2).drewN q)).look HT.out; unfold sv at hl; rw [HNo.out] at hl; unfold optV at hl; have hsz : Maps.size D1 = cn := SizeM.uniq (HM.out _ (Fr.refl No w2)).size (by rw [HE.out]; exact hcn); have HK := hide hsz; obtain ⟨hfree, hmd⟩ := HMd.out w2 hp hf; clear hp hf hsz)
        go_quiet (fail)
        go_wp2_with (first | (at_len; refine wpList_len_own _ rfl _ 68 rfl 9 79 Try.underlying68 fileR _ n1 D1 rfl (HM.out _ ((Fr.refl No w2).drewN _)).own ?_; rw [HK.out]) | (go_at_call 67; refine (hmd _).mono ?_; rintro e w3 ⟨rfl, hst⟩; have HSt := hide hst; clear hst))
        go_ret
        exact ⟨_, cn, hcn, hfree, by rw [HQ.out]; rfl, by rw [HQ.out]; exact HSt.out⟩
  · have hr' : (r != 0) = true := by simp [hr]
    have HQ := hide (fun f' => creS_err (f := f') (c := cn) HCl.out hr)
    unfold RetC at HC
    unfold sv at *
    go_enter Try.func35, Try.ntmps35
    go_wp2_with (go_at_call 43; refine HC.out.mono ?_; rintro e w2 ⟨rfl, hp, hf⟩; have HP := hide hp; have HF := hide hf; clear hp hf)
    go_ret
    exact ⟨w.heap.size, cn, hcn, HFr.out, by rw [HQ.out]; rfl, by rw [HQ.out]; exact Step.narrow (HF1.out.any Z) (Step.of (HP.out.mono (by omega)) (HF.out.isZ HP.out.zd)) (fun _ h => .inl h) (fun k hk => hk.imp id fun h => h.1)⟩
end Go.Proofs.Ythbgcmffpnmbeaa
