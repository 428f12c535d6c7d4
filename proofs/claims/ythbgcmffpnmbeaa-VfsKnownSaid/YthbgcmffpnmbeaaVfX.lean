/- A new directory; Read. -/
import Derived.Test.YthbgcmffpnmbeaaVfW
import Derived.Test.YthbgcmffpnmbeaaSlices8
namespace Go.Proofs.Ythbgcmffpnmbeaa
set_option linter.unusedVariables false
set_option linter.unusedSimpArgs false
open Go.RowKit Go.Maps

def Nw (w w' : World) : Nat → Prop := fun k => w.heap.size ≤ k ∧ k < w'.heap.size
set_option maxRecDepth 100000 in
theorem new_any (w : World) : Calls Try.prog 9 #[] w (fun en w' => en = .returned (.pointer (some ⟨w.heap.size + 2, 0, none⟩)) ∧ Fr No w w' ∧ DirM w' (Nw w w') (w.heap.size + 2) newD 0) := by
  have hmm := @run_makeMap Try.prog
  go_enter Try.func9, Try.ntmps9
  go_wp2
  go_ret
  have f1 : Fr No w (w.alloc (.map #[] 0)) := (Fr.refl _ _).alloc _
  have m1 := MapM.new w
  have m2 := MapM.new (w.alloc (.map #[] 0))
  have hd := heap_alloc_new ((w.alloc (.map #[] 0)).alloc (.map #[] 0)) (.cells #[.map (some w.heap.size), .map (some (w.heap.size + 1)), .slice none 0 0, .int .i64 0, .int .i64 (-1), .int .i64 0, .int .i64 0, .int .i64 0] 73)
  have f3 : Fr No ((w.alloc (.map #[] 0)).alloc (.map #[] 0)) (((w.alloc (.map #[] 0)).alloc (.map #[] 0)).alloc (.cells #[.map (some w.heap.size), .map (some (w.heap.size + 1)), .slice none 0 0, .int .i64 0, .int .i64 (-1), .int .i64 0, .int .i64 0, .int .i64 0] 73)) := (Fr.refl _ _).alloc _
  rw [show (w.alloc (.map #[] 0)).heap.size = w.heap.size + 1 by simp] at m2
  rw [show ((w.alloc (.map #[] 0)).alloc (.map #[] 0)).heap.size = w.heap.size + 2 by simp] at hd
  refine ⟨by simp, ((f1.alloc _).alloc _), ⟨⟨w.heap.size, w.heap.size + 1, .slice none 0 0, fun _ => .slice none 0 0⟩, ?_⟩⟩
  have hz : ∀ k, w.heap.size ≤ k → k < w.heap.size + 3 → Nw w (((w.alloc (.map #[] 0)).alloc (.map #[] 0)).alloc (.cells #[.map (some w.heap.size), .map (some (w.heap.size + 1)), .slice none 0 0, .int .i64 0, .int .i64 (-1), .int .i64 0, .int .i64 0, .int .i64 0] 73)) k := fun k h1 h2 => ⟨h1, by simp; omega⟩
  exact ⟨hd, ⟨0, _, Nat.le_refl _, (m1.fr0 ((Fr.refl _ _).alloc _)).fr0 f3⟩, ⟨0, _, Nat.le_refl _, m2.fr0 f3⟩, by simp, ⟨[], Own.nil _ _ _ _, fun j c v hc => (by cases hc)⟩, fun f x hx => (by cases hx), fun f g _ h => (by cases h),
    fun k f h => (by cases h), fun k f h => (by cases h), fun c hc => (by cases hc), hz (w.heap.size + 2) (by omega) (by omega), hz w.heap.size (by omega) (by omega), hz (w.heap.size + 1) (by omega) (by omega), fun k hk => (by simp [Value.ownBlock] at hk), fun k hk => hk.2, Nat.le_refl _⟩
/-- What Read answers. -/
def RetR (w : World) (b : List UInt8) (e : Int) (en : Ending) (w' : World) : Prop := ∃ v, en = .returned (.tuple #[v, .int .i64 e]) ∧ Own w' w.heap.size 5 1 v b.length (by8 b) ∧ Fr No w w'
theorem give2 {W w' : World} {en : Ending} {t : List UInt8} {k : Nat} (hk : t.length = k) (h : GivesB W t en w') : ∃ A c, en = .returned (.slice A k c) ∧ Own w' W.heap.size 5 1 (.slice A k c) k (by8 t) ∧ Fr No W w' := by
  obtain ⟨v, he, ho, hf⟩ := h
  rw [hk] at ho
  obtain ⟨A, c, rfl, _⟩ := ho.form
  exact ⟨A, c, he, ho, hf⟩
set_option maxRecDepth 100000 in
set_option maxHeartbeats 1600000 in
theorem read_any (w : World) (Z : Nat → Prop) (d N : Nat) (S : Di) (p : Ph) (t : Tx) (h : DirP w Z d S N p) (ht : t.length ≤ maxLen) :
    Calls Try.prog 15 #[.pointer (some ⟨d, 0, none⟩), sv t] w (RetR w (reaS S t).1 (reaS S t).2) := by
  have HO := hide (off_any h)
  unfold reaS
  cases ho : S.off with
  | true =>
    rw [ho] at HO
    rw [if_pos rfl]
    unfold sv
    go_enter Try.func15, Try.ntmps15
    go_wp2_with (go_at_call 39; refine HO.out.mono ?_; rintro e w2 ⟨rfl, q, rfl⟩)
    go_ret2
    exact ⟨_, rfl, Own.nil _ _ _ _, (Fr.refl _ _).drewN _⟩
  | false =>
    rw [ho] at HO
    rw [if_neg (by simp)]
    have HG := hide (fun W => good_any t W)
    cases hg : goodP t with
    | false =>
      rw [hg] at HG
      rw [if_pos rfl]
      unfold sv at *
      go_enter Try.func15, Try.ntmps15
      go_wp2_with (first
        | (go_at_call 39; refine HO.out.mono ?_; rintro e w2 ⟨rfl, q, rfl⟩)
        | (go_at_call 47; refine (HG.out _).mono ?_; rintro e w3 ⟨rfl, hf⟩; have HF := hide hf; clear hf))
      go_ret2
      exact ⟨_, rfl, Own.nil _ _ _ _, ((Fr.refl _ _).drewN _).tr HF.out⟩
    | true =>
      rw [hg] at HG
      rw [if_neg (by simp)]
      obtain ⟨n1, D1, a1, m1⟩ := h.now
      have HM := hide (fun W (f : Fr No w W) => (m1.fr0 f).look ht)
      have HP := hide h
      have k0 : w.cell? ⟨d, 0, none⟩ = some (.map (some p.nb)) := h.cell rfl
      cases hn : S.now t with
      | none =>
        rw [appF_none hn]
        rw [hn] at HM
        clear hn h m1
        unfold optV at HM
        unfold sv at *
        go_enter Try.func15, Try.ntmps15
        go_wp2_with (first
          | (go_at_call 39; refine HO.out.mono ?_; rintro e w2 ⟨rfl, q, rfl⟩)
          | (go_at_call 47; refine (HG.out _).mono ?_; rintro e w3 ⟨rfl, hf⟩; have HF := hide (((Fr.refl No w).drewN q).tr hf); have hl := HM.out w3 HF.out; have k1 := HF.out.cell k0 (fun h => h); clear hf))
        go_ret2
        exact ⟨_, rfl, Own.nil _ _ _ _, HF.out⟩
      | some f =>
        obtain ⟨x, hx⟩ := Option.isSome_iff_exists.1 (h.nowf t f hn)
        rw [appF_some hn hx]
        rw [hn] at HM
        obtain ⟨A9, c9, hq⟩ := h.file hx
        have hfi := (h.files f x hx).1
        have hown := hfi.own
        rw [hq.v] at hown
        have hmost := hfi.most
        have q0 := hq.c0
        have hle := hq.le
        have hcm := hq.most
        have HC := hide (fun W (f : Fr No w W) => clone_any A9 x.b.length c9 w.heap.size x.b W rfl hle hcm (by omega) f.size (hown.rd.fr0 f))
        clear hn h m1 hq hfi hown hx
        unfold optV fpt at HM
        unfold sv at *
        go_enter Try.func15, Try.ntmps15
        go_wp2_with (first
          | (go_at_call 39; refine HO.out.mono ?_; rintro e w2 ⟨rfl, q, rfl⟩)
          | (go_at_call 47; refine (HG.out _).mono ?_; rintro e w3 ⟨rfl, hf⟩; have HF := hide (((Fr.refl No w).drewN q).tr hf); have hl := HM.out w3 HF.out; have k1 := HF.out.cell k0 (fun h => h); have q1 := HF.out.cell q0 (fun h => h); clear hf)
          | (go_at_call 46; refine (HC.out w3 HF.out).mono ?_; intro e w4 hg4; obtain ⟨A4, c4, rfl, ho4, hf4⟩ := give2 rfl hg4; have HO4 := hide ho4; have HF4 := hide hf4; have hle4 := ho4.le.2.1; have hm4 := ho4.le.2.2; clear hg4 ho4 hf4)
          | (go_at_call 48; refine (clip_any A4 _ c4 _ hle4 hm4).mono ?_; rintro e w5 ⟨rfl, rfl⟩))
        go_ret2
        exact ⟨_, rfl, HO4.out.clip.lower HF.out.size, HF.out.tr HF4.out⟩
end Go.Proofs.Ythbgcmffpnmbeaa
