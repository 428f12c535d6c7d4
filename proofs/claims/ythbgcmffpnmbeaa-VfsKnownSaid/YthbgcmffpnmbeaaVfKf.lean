/- Flip beyond a file's end; contracts for literals. -/
import Derived.Test.YthbgcmffpnmbeaaVfKp
namespace Go.Proofs.Ythbgcmffpnmbeaa
set_option linter.unusedVariables false
set_option linter.unusedSimpArgs false
open Go.RowKit Go.Maps

set_option maxRecDepth 100000 in
set_option maxHeartbeats 1600000 in
theorem flip_end (w : World) (Z : Nat → Prop) (d N : Nat) (S : Di) (p : Ph) (t : Tx) (f : Nat) (x : Fi) (mask : Nat) (h : DirP w Z d S N p) (ht : t.length ≤ maxLen) (hg : goodP t = true) (hn : S.now t = some f) (hx : S.fs f = some x) (hl : x.b.length = 0) :
    Calls Try.prog 28 #[.pointer (some ⟨d, 0, none⟩), sv t, .int .i64 0, .int .u8 (mask : Nat)] w (fun en w' => en = .returned (.int .i64 1) ∧ Fr No w w') := by
  have HG := hide (good_any t w)
  rw [hg] at HG
  obtain ⟨n1, D1, a1, m1⟩ := h.now
  have HM := hide (fun W (f : Fr No w W) => (m1.fr0 f).look ht)
  have k0 : w.cell? ⟨d, 0, none⟩ = some (.map (some p.nb)) := h.cell rfl
  obtain ⟨A9, c9, hq⟩ := h.file hx
  have q0 := hq.c0
  rw [hl] at q0
  rw [hn] at HM
  clear hn h m1 hq hx hl hg
  unfold optV fpt at HM
  unfold sv at *
  go_enter Try.func28, Try.ntmps28
  go_wp2_with (go_at_call 47; refine HG.out.mono ?_; rintro e w3 ⟨rfl, hf⟩; have HF := hide hf; have hl := HM.out w3 HF.out; have k1 := HF.out.cell k0 (fun h => h); have q1 := HF.out.cell q0 (fun h => h); clear hf)
  go_ret
  exact ⟨rfl, HF.out⟩
section
variable {w0 w w' : World} {d N : Nat} {S : Di}
theorem fhalt {n : Int} (h : Fsh w0 w d S N) (hN : N < 1099511627000) :
    Calls Try.prog 26 #[.pointer (some ⟨d, 0, none⟩), .int .i64 n] w (fun en w' => en = .returned (.tuple #[]) ∧ Fsh w0 w' d (halS S n) N) := by
  obtain ⟨Z, ⟨p, hd⟩, hz, hf⟩ := h
  exact (halt_any w Z d N S p n hd hN).mono fun en w' hq => ⟨hq.1, Fsh.step hz hf hq.2⟩
theorem fcalls2 (h : Fsh w0 w d S N) : Calls Try.prog 21 #[.pointer (some ⟨d, 0, none⟩)] w (Ret (.int .i64 (S.calls : Nat)) w) := by
  obtain ⟨Z, ⟨p, hd⟩, hz, hf⟩ := h
  exact calls_any hd
theorem fappend0 {t : Tx} (h : Fsh w0 w d S N) (hN : N < 1099511627000) (ht : t.length ≤ maxLen) (hp : S.part ≤ 9223372036854775807) :
    Calls Try.prog 37 #[.pointer (some ⟨d, 0, none⟩), sv t, .slice none 0 0] w (fun en w' => en = .returned (.int .i64 (appS S t []).1) ∧ Fsh w0 w' d (appS S t []).2 (N + 3)) := by
  obtain ⟨Z, ⟨p, hd⟩, hz, hf⟩ := h
  exact (append_any w Z d N S p t none 0 0 0 [] hd hN ht rfl (Nat.le_refl _) (Nat.zero_le _) (Rd.nil _ _ _) (fun ad e => by cases e) hp).mono fun en w' hq => ⟨hq.1, Fsh.step hz hf hq.2⟩
theorem fflip {t : Tx} {f : Nat} {x : Fi} (h : Fsh w0 w d S N) (ht : t.length ≤ maxLen) (hg : goodP t = true) (hn : S.now t = some f) (hx : S.fs f = some x) (hl : x.b.length = 0) :
    Calls Try.prog 28 #[.pointer (some ⟨d, 0, none⟩), sv t, .int .i64 0, .int .u8 1] w (fun en w' => en = .returned (.int .i64 1) ∧ Fr No w w') := by
  obtain ⟨Z, ⟨p, hd⟩, hz, hf⟩ := h
  exact flip_end w Z d N S p t f x 1 hd ht hg hn hx hl
/-- held, asked of no file. -/
theorem held_none (h : Fsh w0 w d S N) (hN : N ≤ 1099511627776) :
    Calls Try.prog 16 #[.pointer (some ⟨d, 0, none⟩), .slice none 0 0, .slice none 0 0] w (fun en w' => ∃ b : Bool, en = .returned (.bool b) ∧ (b = true ↔ heldB S [] []) ∧ Fr No w w') :=
  fheld h hN rfl (Nat.le_refl _) (Nat.zero_le _) (Rd.nil _ 0 _) (fun t h => (by cases h)) rfl (Nat.le_refl _) (Nat.zero_le _) (fun j bs hj => (by simp at hj) : BSl w 0 none [])
/-- held, asked of one file without bytes. -/
theorem held_nil {name : Tx} (h : Fsh w0 w d S N) (hN : N ≤ 1099511627776) (ht : name.length ≤ maxLen) :
    Calls Try.prog 16 #[.pointer (some ⟨d, 0, none⟩), .slice (some ⟨w.heap.size, 0, none⟩) 1 1, .slice (some ⟨w.heap.size + 1, 0, none⟩) 1 1]
      ((w.alloc (.cells #[sv name] 9)).alloc (.cells #[.slice none 0 0] 35)) (fun en w' => ∃ b : Bool, en = .returned (.bool b) ∧ (b = true ↔ heldB S [name] [[]]) ∧ Fr No w w') := by
  obtain ⟨w1, hw1⟩ : ∃ W, W = w.alloc (.cells #[sv name] 9) := ⟨_, rfl⟩
  obtain ⟨w2, hw2⟩ : ∃ W, W = w1.alloc (.cells #[.slice none 0 0] 35) := ⟨_, rfl⟩
  have z1 : w1.heap.size = w.heap.size + 1 := by rw [hw1]; simp
  have b1 : w1.heap[w.heap.size]? = some (.cells #[sv name] 9 (0, 0)) := by rw [hw1]; exact heap_alloc_new w _
  have b2 : w2.heap[w.heap.size + 1]? = some (.cells #[.slice none 0 0] 35 (0, 0)) := by rw [← z1, hw2]; exact heap_alloc_new w1 _
  have f1 : Fr No w w1 := by rw [hw1]; exact (Fr.refl No w).alloc _
  have f2 : Fr No w1 w2 := by rw [hw2]; exact (Fr.refl No w1).alloc _
  have c1 := f2.blk b1 (fun h => h)
  rw [← hw1, ← hw2]
  have hbl : BSl w2 (w.heap.size + 2) (some ⟨w.heap.size + 1, 0, none⟩) [[]] := fun j b hj => by
    have hj0 : j = 0 := by have := (List.getElem?_eq_some_iff.1 hj).1; simp at this; omega
    subst hj0
    obtain rfl : [] = b := by simpa using hj
    refine ⟨⟨w.heap.size + 1, 0, none⟩, none, 0, rfl, by simp, ?_, Nat.le_refl _, Nat.zero_le _, Rd.nil _ _ _⟩
    rw [Addr.add_lit, Nat.zero_add, cell_of_row w2 _ 0 _ _ _ b2]; rfl
  refine (fheld ((h.fr0 f1).fr0 f2) hN (names := [name]) (bss := [[]]) (n := 1) (m := 1) rfl (Nat.le_refl _) (by unfold maxLen; omega) (Rd.block c1) (fun t h => by rw [List.mem_singleton.1 h]; exact ht) rfl (Nat.le_refl _) (by unfold maxLen; omega) hbl).mono fun en w' hq => ?_
  obtain ⟨b, h1, h2, h3⟩ := hq
  exact ⟨b, h1, h2, (f1.tr f2).tr h3⟩
/-- Crash without choices. -/
theorem crash_nil (h : Fsh w0 w d S N) (hN : N ≤ 1099511627000) :
    Calls Try.prog 14 #[.pointer (some ⟨d, 0, none⟩), .slice none 0 0] w (fun en w' => ∃ ks C x, CrashR S [] ks C ∧ en = .returned (.pointer (some ⟨x, 0, none⟩)) ∧ Fsh w0 w' x C N ∧ Fsh w0 w' d S N) := by
  refine (fcrash (l := []) h hN rfl (Nat.le_refl _) (Nat.zero_le _) (Rd.nil _ 0 _) (Nat.zero_le _) (fun z hz => by cases hz)).mono fun en w' hq => ?_
  obtain ⟨ks, C, x, h1, h2, h3, h4⟩ := hq
  exact ⟨ks, C, x, h1, h2, h3.lower h.frame, h4⟩
end
end Go.Proofs.Ythbgcmffpnmbeaa
