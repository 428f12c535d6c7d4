/- SyncDir; a new directory. -/
import Derived.Test.YthbgcmffpnmbeaaVfV
import Derived.Shelf.SlMaps.Clone
import Derived.Shelf.SlGeneric
import Derived.Ground.SlmcProg
namespace Go.Proofs
open Go.RowKit Go.Shelf
shelf_lay_g SlLaysW.n5 Slmc 5 at Try 44 as Try.mclone
end Go.Proofs
namespace Go.Proofs.Ythbgcmffpnmbeaa
set_option linter.unusedVariables false
set_option linter.unusedSimpArgs false
open Go.RowKit Go.Maps

theorem mclone_any (w : World) (b n : Nat) (m : Ents) (D : DataW Empty) (h : MapM w b n m D) :
    Calls Try.prog 44 #[.map (some b)] w (fun en w' => en = .returned (.map (some w.heap.size)) ∧ MapM w' w.heap.size n m D ∧ Fr No w w') := by
  have hc := AnyW.maps_Clone_owns (ρ := Try.mclone_ren) Try.mclone 9 fileR b n D w h.own
  change Calls Try.prog 44 _ _ _ at hc
  exact hc.mono fun en w' ⟨h1, h2, _, h4⟩ => ⟨h1, ⟨h2, h.at_, h.has⟩, Fr.of_below h4⟩
section
variable {w w' : World} {Z : Nat → Prop} {d N n g : Nat} {S : Di} {p : Ph} {D : DataW Empty}
/-- The directory is safe. -/
theorem DirP.syd (h : DirP w Z d S N p) (fr : Fr No w w') (hm : MapM w' g n S.now D) (hn : n ≤ N) (hg : w.heap.size ≤ g) :
    DirP ((w'.setCell ⟨d, 1, none⟩ (.map (some g))).setCell ⟨d, 2, none⟩ (.slice none 0 0)) (Zw Z w w') d { S with dur := S.now, chs := [] } N { p with mb := g, cv := .slice none 0 0 } ∧
      Fr (Is d) w' ((w'.setCell ⟨d, 1, none⟩ (.map (some g))).setCell ⟨d, 2, none⟩ (.slice none 0 0)) := by
  have h0 := h.widen fr
  have f2 : Fr (Is d) w' ((w'.setCell ⟨d, 1, none⟩ (.map (some g))).setCell ⟨d, 2, none⟩ (.slice none 0 0)) := ((Fr.refl _ _).put 1 _).put 2 _
  have hk := OfK.is h0.dir
  obtain ⟨n1, D1, a1, m1⟩ := h0.now
  have hne : p.nb ≠ g := by have := h.lt p.nb h.znb; omega
  refine ⟨⟨?_, ⟨n1, D1, a1, m1.frK f2 hk (by simp [kd])⟩, ⟨n, D, by simpa using hn, hm.frK f2 hk (by simp [kd])⟩, hne, ⟨[], Own.nil _ _ _ _, fun j c v hc => (by cases hc)⟩,
    fun f x hx => ⟨(h0.files f x hx).1.frK f2 hk (by simp [kd]) (by simp [kd]), (h0.files f x hx).2⟩, h0.apart, h0.nowf, h0.nowf, fun c hc => (by cases hc), h0.zd, h0.znb, .inr ⟨hg, hm.lt⟩, fun k hk => (by simp [Value.ownBlock] at hk), fun k hk => Nat.lt_of_lt_of_le (h0.lt k hk) f2.size, h0.calls⟩, f2⟩
  have e1 := heap_setCell_same w' d 1 (dirC p S) _ (.map (some g)) h0.dir
  rw [heap_setCell_same _ d 2 _ _ (.slice none 0 0) e1]
  rfl
end
theorem sydS_err {S S1 : Di} {r : Int} {fl : Bool} (h : cal S [] = (r, fl, S1)) (hr : r ≠ 0) : sydS S = (r, S1) := by unfold sydS; rw [h]; exact if_pos hr
theorem sydS_ok {S S1 : Di} {fl : Bool} (h : cal S [] = (0, fl, S1)) : sydS S = (0, { S1 with dur := S.now, chs := [] }) := by unfold sydS; rw [h]; rfl
set_option maxRecDepth 100000 in
set_option maxHeartbeats 1600000 in
theorem syncdir_any (w : World) (Z : Nat → Prop) (d N : Nat) (S : Di) (p : Ph) (h : DirP w Z d S N p) (hN : N < 1099511627000) :
    Calls Try.prog 13 #[.pointer (some ⟨d, 0, none⟩)] w (fun en w' => en = .returned (.int .i64 (sydS S).1) ∧ Step w w' Z d (sydS S).2 (N + 3)) := by
  have HC := hide (call0_any h (by omega))
  have HZ := hide h.zd
  obtain ⟨e1, e2, e3, e4, e5⟩ := cal_fs S []
  generalize hc : cal S [] = c at *
  obtain ⟨r, fl, S1⟩ := c
  simp only at e1 e2 e3 e4 e5
  by_cases hr : r = 0
  · subst hr
    rw [sydS_ok hc]
    have HE := hide e2
    clear h hc e1 e2 e3 e4 e5
    unfold RetC at HC
    go_enter Try.func13, Try.ntmps13
    go_wp2_with (first
      | (go_at_call 43; refine HC.out.mono ?_; rintro e w2 ⟨rfl, hp, hf⟩; have HP := hide hp; have HF := hide hf; have k0 : w2.cell? ⟨d, 0, none⟩ = some (.map (some p.nb)) := hp.cell rfl; obtain ⟨n1, D1, a1, m1⟩ := hp.now; have HM := hide (mclone_any w2 _ _ _ _ m1); have HD := hide hp.dir; have hlt := hp.lt d hp.zd; have hne : d ≠ w2.heap.size := (by omega); clear hp hf m1)
      | (go_at_call 44; refine HM.out.mono ?_; rintro e w3 ⟨rfl, hm3, f3⟩; have hd3 := f3.blk HD.out (fun h => h); have g1 := frozen_of_row w3 d 1 _ _ hd3; have g2 := frozen_of_row w3 d 2 _ _ hd3; have q1 : w3.cell? ⟨d, 1, none⟩ = some (.map (some p.mb)) := cell_of_row w3 d 1 _ _ _ hd3; have q2 : w3.cell? ⟨d, 2, none⟩ = some p.cv := cell_of_row w3 d 2 _ _ _ hd3; have HM3 := hide hm3; have HF3 := hide f3; clear hm3 f3 hd3))
    go_ret
    obtain ⟨h5, f5⟩ := HP.out.syd HF3.out HM3.out a1 (Nat.le_refl _)
    rw [← HE.out]
    exact ⟨rfl, Step.narrow ((HF.out.isZ HZ.out).tr HF3.out) (Step.of (h5.mono (by omega)) (f5.isZ (.inl HZ.out))) (fun _ h => .inl h) (fun k hk => hk.imp id fun h => Nat.le_trans HF.out.size h.1)⟩
  · have hr' : (r != 0) = true := by simp [hr]
    rw [sydS_err hc hr]
    clear h hc e1 e2 e3 e4 e5
    unfold RetC at HC
    go_enter Try.func13, Try.ntmps13
    go_wp2_with (go_at_call 43; refine HC.out.mono ?_; rintro e w2 ⟨rfl, hp, hf⟩; have HP := hide hp; have HF := hide hf; clear hp hf)
    go_ret
    exact ⟨rfl, Step.of (HP.out.mono (by omega)) (HF.out.isZ HZ.out)⟩
end Go.Proofs.Ythbgcmffpnmbeaa
