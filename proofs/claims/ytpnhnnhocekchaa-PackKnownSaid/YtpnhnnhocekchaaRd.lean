/- A reader: its block; NewReader, Left, Err. -/
import Derived.Test.YtpnhnnhocekchaaSlices8
namespace Go.Proofs.Ytpnhnnhocekchaa
set_option linter.unusedVariables false
set_option linter.unusedSimpArgs false
open Go.RowKit

/-- a reader: bytes, the place in them, the error. -/
def RD (w : World) (g : Nat) (bs : List UInt8) (at_ : Nat) (e : Int) : Prop :=
  ∃ A c, w.heap[g]? = some (.cells #[.slice A bs.length c, .int .i64 at_, .int .i64 e] 131 (0, 0)) ∧ bs.length ≤ c ∧ c ≤ maxLen ∧ at_ ≤ bs.length ∧ bs.length ≤ 140737488355328 ∧
    Own w 0 5 1 (.slice A bs.length c) bs.length (by8 bs)

theorem RD.parts {w : World} {g : Nat} {bs : List UInt8} {at_ : Nat} {e : Int} (h : RD w g bs at_ e) :
    ∃ A c, (w.cell? ⟨g, 0, none⟩ = some (.slice A bs.length c) ∧ w.cell? ⟨g, 1, none⟩ = some (.int .i64 at_) ∧ w.cell? ⟨g, 2, none⟩ = some (.int .i64 e)) ∧ (∀ i, w.frozen? ⟨g, i, none⟩ = false) ∧
      bs.length ≤ c ∧ c ≤ maxLen ∧ at_ ≤ bs.length ∧ bs.length ≤ 140737488355328 ∧ Rd w w.heap.size A (by8 bs) := by
  obtain ⟨A, c, hh, h1, h2, h3, h4, ho⟩ := h
  exact ⟨A, c, ⟨cell_of_row w g 0 _ _ (0, 0) hh, cell_of_row w g 1 _ _ (0, 0) hh, cell_of_row w g 2 _ _ (0, 0) hh⟩, fun i => by simp [World.frozen?, hh], h1, h2, h3, h4, ho.rd⟩

theorem RD.set1 {w : World} {g : Nat} {bs : List UInt8} {at_ : Nat} {e : Int} (h : RD w g bs at_ e) (k : Nat) (hk : k ≤ bs.length) : RD (w.setCell ⟨g, 1, none⟩ (.int .i64 k)) g bs k e := by
  obtain ⟨A, c, hh, h1, h2, h3, h4, ho⟩ := h
  refine ⟨A, c, by simp [World.setCell, Array.getElem?_modify, hh], h1, h2, hk, h4, ho.fr ((Fr.refl (Is g) w).setCell (p := ⟨g, 1, none⟩) (fun _ => rfl) _) ?_⟩
  rintro g' hg' rfl
  exact ho.ne_blk hg' hh (by decide)

theorem RD.set2 {w : World} {g : Nat} {bs : List UInt8} {at_ : Nat} {e : Int} (h : RD w g bs at_ e) (k : Int) : RD (w.setCell ⟨g, 2, none⟩ (.int .i64 k)) g bs at_ k := by
  obtain ⟨A, c, hh, h1, h2, h3, h4, ho⟩ := h
  refine ⟨A, c, by simp [World.setCell, Array.getElem?_modify, hh], h1, h2, h3, h4, ho.fr ((Fr.refl (Is g) w).setCell (p := ⟨g, 2, none⟩) (fun _ => rfl) _) ?_⟩
  rintro g' hg' rfl
  exact ho.ne_blk hg' hh (by decide)

theorem RD.drewN {w : World} {g : Nat} {bs : List UInt8} {at_ : Nat} {e : Int} (h : RD w g bs at_ e) (n : Nat) : RD (w.drewN n) g bs at_ e := h

theorem RD.fr0 {w w' : World} {g : Nat} {bs : List UInt8} {a : Nat} {e : Int} (h : RD w g bs a e) (f : Fr No w w') : RD w' g bs a e := by
  obtain ⟨A, c, hh, h1, h2, h3, h4, ho⟩ := h
  exact ⟨A, c, f.blk hh (fun h => h), h1, h2, h3, h4, ho.fr0 f⟩

theorem RD.lt {w : World} {g : Nat} {bs : List UInt8} {a : Nat} {e : Int} (h : RD w g bs a e) : g < w.heap.size := by
  obtain ⟨A, c, hh, _⟩ := h
  exact (Array.getElem?_eq_some_iff.1 hh).1

theorem RD.other {w w' : World} {g g2 : Nat} {bs bs2 : List UInt8} {a a2 : Nat} {e e2 : Int} (h : RD w g bs a e) (h2 : RD w g2 bs2 a2 e2) (f : Fr (Is g2) w w') (hne : g ≠ g2) : RD w' g bs a e := by
  obtain ⟨A, c, hh, h1, h2', h3, h4, ho⟩ := h
  obtain ⟨A2, c2, hh2, _⟩ := h2
  refine ⟨A, c, f.blk hh hne, h1, h2', h3, h4, ho.fr f ?_⟩
  rintro g' hg' rfl
  exact ho.ne_blk hg' hh2 (by decide)

theorem dec_le : ∀ (bs : List UInt8) (i acc u k : Nat), dec i acc bs = some (u, k) → i < k ∧ k ≤ i + bs.length
  | [], i, acc, u, k, h => by simp [dec] at h
  | b :: r, i, acc, u, k, h => by
    rw [dec] at h
    split at h
    · cases h
    · split at h
      · cases h
      · split at h
        · split at h
          · cases h
          · injection h with h; injection h with _ h; simp; omega
        · have := dec_le r _ _ u k h
          simp; omega

/-- what a reader's call leaves: value, place, error. -/
def RDRet (v : Value) (w : World) (g : Nat) (bs : List UInt8) (at_ : Nat) (e : Int) (en : Ending) (w' : World) : Prop := en = .returned v ∧ RD w' g bs at_ e ∧ Fr (Is g) w w'

/-- a new reader. -/
def GivesRD (w : World) (bs : List UInt8) (en : Ending) (w' : World) : Prop := ∃ g, en = .returned (.pointer (some ⟨g, 0, none⟩)) ∧ w.heap.size ≤ g ∧ RD w' g bs 0 0 ∧ Fr No w w'

set_option maxRecDepth 100000 in
set_option maxHeartbeats 400000 in
theorem newReader_any (A : Option Addr) (n c B : Nat) (bs : List UInt8) (w : World) (hl : bs.length = n) (hn : n ≤ c) (hc : c ≤ maxLen) (hb : n ≤ 140737488355328) (hB : B ≤ w.heap.size) (hr : Rd w B A (by8 bs)) :
    Calls Try.prog 61 #[.slice A n c] w (GivesRD w bs) := by
  have H := hide (clone_any A n c B bs w hl hn hc hb hB hr)
  have HL := hide hl
  clear hr hl
  go_enter Try.func61, Try.ntmps61
  go_wp2_with (go_at_call 92; refine H.out.mono ?_; rintro en w' ⟨v, rfl, hown, hfr⟩; obtain ⟨A', c', rfl, hq1, hq2, hq3, hq4⟩ := hown.form; have HO := hide hown; have HF := hide hfr; clear hown hfr hq3 hq4)
  go_ret
  refine ⟨w'.heap.size, rfl, HF.out.size, ⟨A', c', heap_alloc_new w' _, hq1, hq2, Nat.zero_le _, by rw [HL.out]; exact hb, ?_⟩, HF.out.alloc _⟩
  exact (HO.out.lower (Nat.zero_le _)).fr0 ((Fr.refl _ _).alloc _)

set_option maxRecDepth 100000 in
set_option maxHeartbeats 400000 in
theorem left_any (g : Nat) (bs : List UInt8) (a : Nat) (e : Int) (w : World) (h : RD w g bs a e) :
    Calls Try.prog 67 #[.pointer (some ⟨g, 0, none⟩)] w (RetQ (.int .i64 ((bs.length - a : Nat) : Int)) w) := by
  obtain ⟨A, c, ⟨c0, c1, c2⟩, hf, h1, h2, h3, h4, hr⟩ := h.parts
  have hx : ((bs.length - a : Nat) : Int) = (bs.length : Int) - a := by omega
  have HX := hide hx
  clear h hr hx
  generalize bs.length = n at *
  go_enter Try.func67, Try.ntmps67
  go_wp2
  go_quiet (fail)
  go_wp2
  go_ret
  exact ⟨by rw [HX.out]; rfl, _, rfl⟩

set_option maxRecDepth 100000 in
set_option maxHeartbeats 400000 in
theorem left_nil (w : World) : Calls Try.prog 67 #[.pointer none] w (Ret (.int .i64 0) w) := by
  go_enter Try.func67, Try.ntmps67
  go_wp2
  go_ret
  exact ⟨rfl, rfl⟩

set_option maxRecDepth 100000 in
set_option maxHeartbeats 400000 in
theorem err_any (g : Nat) (bs : List UInt8) (a : Nat) (e : Int) (w : World) (h : RD w g bs a e) :
    Calls Try.prog 64 #[.pointer (some ⟨g, 0, none⟩)] w (Ret (.int .i64 e) w) := by
  obtain ⟨A, c, ⟨c0, c1, c2⟩, hf, h1, h2, h3, h4, hr⟩ := h.parts
  clear h hr
  go_enter Try.func64, Try.ntmps64
  go_wp2
  go_ret
  exact ⟨rfl, rfl⟩

set_option maxRecDepth 100000 in
set_option maxHeartbeats 400000 in
theorem err_nil (w : World) : Calls Try.prog 64 #[.pointer none] w (Ret (.int .i64 20) w) := by
  go_enter Try.func64, Try.ntmps64
  go_wp2
  go_ret
  exact ⟨rfl, rfl⟩

def endE (bs : List UInt8) (a : Nat) (e : Int) : Int := if e = 0 ∧ a < bs.length then 20 else e

/-- where a reader's bytes lie: from M on. -/
def Up0 (w : World) (g M : Nat) : Prop := ∀ A n c, w.cell? ⟨g, 0, none⟩ = some (.slice A n c) → ∀ k, (Value.slice A n c).ownBlock = some k → M ≤ k

def GivesRU (w : World) (bs : List UInt8) (en : Ending) (w' : World) : Prop := ∃ g, en = .returned (.pointer (some ⟨g, 0, none⟩)) ∧ w.heap.size ≤ g ∧ RD w' g bs 0 0 ∧ Fr No w w' ∧ Up0 w' g w.heap.size

theorem RD.below {S : Nat → Prop} {w w' : World} {g M : Nat} {bs : List UInt8} {a : Nat} {e : Int} (h : RD w g bs a e) (h0 : Up0 w g M) (hg : M ≤ g) (f : Fr S w w') (hS : ∀ k, M ≤ k → ¬ S k) : RD w' g bs a e := by
  obtain ⟨A, c, hh, h1, h2', h3, h4, ho⟩ := h
  refine ⟨A, c, f.blk hh (hS g hg), h1, h2', h3, h4, ho.fr f ?_⟩
  intro k hk
  exact hS k (h0 A bs.length c (by rw [cell_of_row w g 0 _ _ (0, 0) hh]; rfl) k hk)

theorem Up0.fr0 {w w' : World} {g M : Nat} {bs : List UInt8} {a : Nat} {e : Int} (h : Up0 w g M) (r : RD w g bs a e) (f : Fr No w w') : Up0 w' g M := by
  intro A n c hc k hk
  obtain ⟨_, _, ⟨z, _⟩, _⟩ := r.parts
  have := f.cell (p := ⟨g, 0, none⟩) z (fun h => h)
  rw [this] at hc
  exact h A n c (by rw [z, hc]) k hk

set_option maxRecDepth 100000 in
set_option maxHeartbeats 400000 in
theorem newReader_up (A : Option Addr) (n c B : Nat) (bs : List UInt8) (w : World) (hl : bs.length = n) (hn : n ≤ c) (hc : c ≤ maxLen) (hb : n ≤ 140737488355328) (hB : B ≤ w.heap.size) (hr : Rd w B A (by8 bs)) :
    Calls Try.prog 61 #[.slice A n c] w (GivesRU w bs) := by
  have H := hide (clone_any A n c B bs w hl hn hc hb hB hr)
  have HL := hide hl
  clear hr hl
  go_enter Try.func61, Try.ntmps61
  go_wp2_with (go_at_call 92; refine H.out.mono ?_; rintro en w' ⟨v, rfl, hown, hfr⟩; obtain ⟨A', c', rfl, hq1, hq2, hq3, hq4⟩ := hown.form; have HO := hide hown; have HF := hide hfr; clear hown hfr hq3 hq4)
  go_ret
  refine ⟨w'.heap.size, rfl, HF.out.size, ⟨A', c', heap_alloc_new w' _, hq1, hq2, Nat.zero_le _, by rw [HL.out]; exact hb, ?_⟩, HF.out.alloc _, ?_⟩
  · exact (HO.out.lower (Nat.zero_le _)).fr0 ((Fr.refl _ _).alloc _)
  · intro A2 n2 c2 hc2 k hk
    rw [cell_of_row _ w'.heap.size 0 _ _ (0, 0) (heap_alloc_new w' _)] at hc2
    have : Value.slice A' bs.length c' = .slice A2 n2 c2 := by simpa using hc2
    rw [← this] at hk
    exact (HO.out.lt k hk).1

end Go.Proofs.Ytpnhnnhocekchaa
