/- made. -/
import Derived.Test.YthbgcmffpnmbeaaVfJ
namespace Go.Proofs.Ythbgcmffpnmbeaa
set_option linter.unusedVariables false
set_option linter.unusedSimpArgs false
open Go.RowKit Go.Maps

theorem Try.infoCh : ∃ i z, Try.prog.info? 86 = some i ∧ i.zero = some z ∧ i.size = 1 ∧ i.bytes = 8 ∧ z.cells.size = 1 := by
  have h : (Try.prog.info? 86).map (fun i => (i.zero.map (fun z => z.cells.size), i.size, i.bytes)) = some (some 1, 1, 8) := by kernel_rfl
  cases hi : Try.prog.info? 86 with
  | none => rw [hi] at h; cases h
  | some i =>
    rw [hi] at h
    cases hz : i.zero with
    | none => simp [hz] at h
    | some z =>
      simp [hz] at h
      exact ⟨i, z, rfl, hz, h.2.1, h.2.2, h.1⟩
theorem app_file {c : Ch} {m : Ents} {k : Tx} {f : Nat} (h : c.app m k = some f) : c.file = some f ∨ ∃ k', m k' = some f := by
  cases c with
  | put n g =>
    simp only [Ch.app, Ents.put] at h
    split at h
    · exact .inl h
    · exact .inr ⟨k, h⟩
  | ren a b g =>
    simp only [Ch.app, Ents.put] at h
    split at h
    · exact .inl h
    · split at h
      · simp only [Ents.del] at h
        split at h
        · cases h
        · exact .inr ⟨k, h⟩
      · exact .inr ⟨k, h⟩
  | del n =>
    simp only [Ch.app, Ents.del] at h
    split at h
    · cases h
    · exact .inr ⟨k, h⟩
set_option maxRecDepth 100000 in
set_option maxHeartbeats 800000 in
theorem made_any (w : World) (Z : Nat → Prop) (d N : Nat) (S : Di) (p : Ph) (c : Ch) (v : Value) (h : DirP w Z d S N p) (hN : N < 1099511627776) (hv : ChV w Z c v) (hf : ∀ f, c.file = some f → (S.fs f).isSome = true) :
    Calls Try.prog 67 #[.pointer (some ⟨d, 0, none⟩), v] w (fun en w' => en = .returned (.int .i64 0) ∧ Step w w' Z d (S.made c) (N + 2)) := by
  obtain ⟨n1, D1, a1, m1⟩ := h.now
  have hfile : ∀ g, c.file = some g ∨ (∃ k, S.now k = some g) → ∃ cs ta, w.heap[g]? = some (.cells cs ta (0, 0)) := fun g hg => by
    have hs : (S.fs g).isSome = true := by
      rcases hg with hg | ⟨k, hg⟩
      · exact hf g hg
      · exact h.nowf k g hg
    obtain ⟨x, hx⟩ := Option.isSome_iff_exists.1 hs
    exact ⟨_, _, (h.files g x hx).1.cell⟩
  have hc := chg_any hv m1 (by unfold maxLen; omega) hfile
  have o1 : v.oneCell' = true := by rcases hc with ⟨_, _, rfl, _⟩ | ⟨_, _, _, rfl, _⟩ | ⟨_, rfl, _⟩ <;> rfl
  have c0 : w.cell? ⟨d, 0, none⟩ = some (.map (some p.nb)) := h.cell rfl
  have hdn : d ≠ p.nb := fun e => by
    obtain ⟨es, clock, hb⟩ := m1.isMap
    rw [← e, h.dir] at hb
    cases hb
  -- behind the change
  have HS : Hid (∀ (w1 : World), (∃ D', MapM w1 p.nb (n1 + 1) (c.app S.now) D') → Fr (Is p.nb) w w1 →
      ∃ vs, w1.cell? ⟨d, 2, none⟩ = some p.cv ∧ w1.frozen? ⟨d, 2, none⟩ = false ∧ Own (w1.alloc (.cells #[v] 86)) 0 86 1 p.cv S.chs.length vs ∧ S.chs.length ≤ N ∧
        d < w1.heap.size ∧ ∀ v' w3, Own w3 0 86 1 v' (S.chs.length + 1) (vs ++ [v]) → Fr (fun k => p.cv.ownBlock = some k) (w1.alloc (.cells #[v] 86)) w3 → (v'.ownBlock = p.cv.ownBlock ∨ v'.ownBlock = some (w1.alloc (.cells #[v] 86)).heap.size) →
          w3.frozen? ⟨d, 2, none⟩ = false ∧ (∃ u, w3.cell? ⟨d, 2, none⟩ = some u) ∧ Step w (w3.setCell ⟨d, 2, none⟩ v') Z d (S.made c) (N + 2)) := hide fun w1 ⟨D', hm'⟩ f1 => by
    have h1 : DirP w1 Z d { S with now := c.app S.now } (N + 1) p := h.nowW f1 ⟨n1 + 1, D', by omega, hm'⟩ (Nat.le_succ N) fun k f hk => by
      rcases app_file hk with e | ⟨k', e⟩
      · exact hf f e
      · exact h.nowf k' f e
    obtain ⟨n2, D2, a2, m2⟩ := h.dur
    have h0 : DirP (w1.alloc (.cells #[v] 86)) Z d { S with now := c.app S.now } (N + 1) p := h1.fr0 ((Fr.refl No w1).alloc _)
    obtain ⟨vs, ho, hcs⟩ := h0.chs
    have hcv : ChV w1 Z c v := by
      obtain ⟨es, clock, hb⟩ := m1.isMap
      exact hv.frK f1 (OfK.is hb) (by simp [kd]) (by simp [kd]) (fun _ h => h)
    refine ⟨vs, h1.cell rfl, h1.open_ 2, ho, by omega, h1.lt d h1.zd, fun v' w3 ho' f3 hl => ?_⟩
    have hd3 := blk_frK h0.dir f3 (OfK.own ho) (by simp [kd])
    refine ⟨frozen_of_row w3 d 2 _ _ hd3, ⟨_, cell_of_row w3 d 2 _ _ _ hd3⟩, ?_⟩
    have hst := h0.chW ho hcs f3 ho' hl (hcv.fr ((Fr.refl No w1).alloc _) (fun _ _ h => h) (fun _ h => h)) hf
    exact hst.ahead ((f1.isZ h.znb).tr ((Fr.refl No w1).alloc _))
  obtain ⟨i0, z0, hi, hz, hsz, hby, hzs⟩ := Try.infoCh
  clear h m1 hfile
  have HSr := hide (fun W => Src.one (P := Try.prog) W (e := 86) Try.underlying69 v o1)
  rcases hc with ⟨b1, b2, rfl, HC⟩ | ⟨b1, b2, b3, rfl, HC⟩ | ⟨b1, rfl, HC⟩
  · have HC' := hide HC
    clear HC hv
    go_enter Try.func67, Try.ntmps67
    go_wp2_with (first
      | (go_at_call 68; refine HC'.out.mono ?_; rintro e w1 ⟨rfl, hm', f1⟩; obtain ⟨vs, k2, g2, ho, hle, hlt, hst⟩ := HS.out w1 hm' f1; have HO := hide ho; have HT := hide hst; clear ho hst hm' f1)
      | (at_builtin; refine wpList_append_gen _ rfl (.tmp 15) (.tmp 17) 69 69 rfl 0 86 i0 z0 1 8 Try.underlying69 hi hz hsz hby hzs p.cv S.chs.length vs rfl HO.out _ 1 [.func (.func 68) #[] #[bx b1, bx b2]] rfl (HSr.out _) (by omega) (by unfold maxLen; omega) (Nat.zero_le _) ?_; intro v' w3 hown hfr hat; obtain ⟨g3, ⟨u, k3⟩, hstep⟩ := HT.out v' w3 hown hfr hat; obtain ⟨A9, c9, rfl, -⟩ := hown.form; have HP := hide hstep; clear hstep hown hfr hat))
    go_ret
    exact ⟨rfl, HP.out⟩
  · have HC' := hide HC
    clear HC hv
    go_enter Try.func67, Try.ntmps67
    go_wp2_with (first
      | (go_at_call 69; refine HC'.out.mono ?_; rintro e w1 ⟨rfl, hm', f1⟩; obtain ⟨vs, k2, g2, ho, hle, hlt, hst⟩ := HS.out w1 hm' f1; have HO := hide ho; have HT := hide hst; clear ho hst hm' f1)
      | (at_builtin; refine wpList_append_gen _ rfl (.tmp 15) (.tmp 17) 69 69 rfl 0 86 i0 z0 1 8 Try.underlying69 hi hz hsz hby hzs p.cv S.chs.length vs rfl HO.out _ 1 [.func (.func 69) #[] #[bx b1, bx b2, bx b3]] rfl (HSr.out _) (by omega) (by unfold maxLen; omega) (Nat.zero_le _) ?_; intro v' w3 hown hfr hat; obtain ⟨g3, ⟨u, k3⟩, hstep⟩ := HT.out v' w3 hown hfr hat; obtain ⟨A9, c9, rfl, -⟩ := hown.form; have HP := hide hstep; clear hstep hown hfr hat))
    go_ret
    exact ⟨rfl, HP.out⟩
  · have HC' := hide HC
    clear HC hv
    go_enter Try.func67, Try.ntmps67
    go_wp2_with (first
      | (go_at_call 70; refine HC'.out.mono ?_; rintro e w1 ⟨rfl, hm', f1⟩; obtain ⟨vs, k2, g2, ho, hle, hlt, hst⟩ := HS.out w1 hm' f1; have HO := hide ho; have HT := hide hst; clear ho hst hm' f1)
      | (at_builtin; refine wpList_append_gen _ rfl (.tmp 15) (.tmp 17) 69 69 rfl 0 86 i0 z0 1 8 Try.underlying69 hi hz hsz hby hzs p.cv S.chs.length vs rfl HO.out _ 1 [.func (.func 70) #[] #[bx b1]] rfl (HSr.out _) (by omega) (by unfold maxLen; omega) (Nat.zero_le _) ?_; intro v' w3 hown hfr hat; obtain ⟨g3, ⟨u, k3⟩, hstep⟩ := HT.out v' w3 hown hfr hat; obtain ⟨A9, c9, rfl, -⟩ := hown.form; have HP := hide hstep; clear hstep hown hfr hat))
    go_ret
    exact ⟨rfl, HP.out⟩
end Go.Proofs.Ythbgcmffpnmbeaa
