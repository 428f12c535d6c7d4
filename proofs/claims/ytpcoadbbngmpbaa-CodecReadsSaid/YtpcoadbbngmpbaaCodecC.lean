/- The reader's calls. -/
import Derived.Test.YtpcoadbbngmpbaaCodecB
namespace Go.Proofs.Ytpcoadbbngmpbaa
open Go.RowKit

/-- a reader: bytes, the place in them, the error. -/
def RD (w : World) (g : Nat) (bs : List UInt8) (at_ : Nat) (e : Int) : Prop :=
  ∃ A c, w.heap[g]? = some (.cells #[.slice A bs.length c, .int .i64 at_, .int .i64 e] 64 (0, 0)) ∧ bs.length ≤ c ∧ c ≤ maxLen ∧ at_ ≤ bs.length ∧ bs.length ≤ 140737488355328 ∧
    Own w 0 5 1 (.slice A bs.length c) bs.length (by8 bs)

theorem RD.parts {w : World} {g : Nat} {bs : List UInt8} {at_ : Nat} {e : Int} (h : RD w g bs at_ e) :
    ∃ A c, (w.cell? ⟨g, 0, none⟩ = some (.slice A bs.length c) ∧ w.cell? ⟨g, 1, none⟩ = some (.int .i64 at_) ∧ w.cell? ⟨g, 2, none⟩ = some (.int .i64 e)) ∧ (∀ i, w.frozen? ⟨g, i, none⟩ = false) ∧
      bs.length ≤ c ∧ c ≤ maxLen ∧ at_ ≤ bs.length ∧ bs.length ≤ 140737488355328 ∧ Rd w w.heap.size A (by8 bs) := by
  obtain ⟨A, c, hh, h1, h2, h3, h4, ho⟩ := h
  exact ⟨A, c, ⟨cell_of_row w g 0 _ _ (0, 0) hh, cell_of_row w g 1 _ _ (0, 0) hh, cell_of_row w g 2 _ _ (0, 0) hh⟩, fun i => by simp [World.frozen?, hh], h1, h2, h3, h4, ho.rd⟩
theorem RD.set1 {w : World} {g : Nat} {bs : List UInt8} {at_ : Nat} {e : Int} (h : RD w g bs at_ e) (k : Nat) (hk : k ≤ bs.length) : RD (w.setCell ⟨g, 1, none⟩ (.int .i64 k)) g bs k e := by
  obtain ⟨A, c, hh, h1, h2, h3, h4, ho⟩ := h
  refine ⟨A, c, by simp [World.setCell, Array.getElem?_modify, hh], h1, h2, hk, h4, ho.fr ((Fr.refl (Is g) w).setCell (p := ⟨g, 1, none⟩) (fun _ => rfl) _) ?_⟩
  rintro g' hg' rfl
  exact ho.ne_blk hg' hh (by decide)
theorem RD.set2 {w : World} {g : Nat} {bs : List UInt8} {at_ : Nat} {e : Int} (h : RD w g bs at_ e) (k : Int) : RD (w.setCell ⟨g, 2, none⟩ (.int .i64 k)) g bs at_ k := by
  obtain ⟨A, c, hh, h1, h2, h3, h4, ho⟩ := h
  refine ⟨A, c, by simp [World.setCell, Array.getElem?_modify, hh], h1, h2, h3, h4, ho.fr ((Fr.refl (Is g) w).setCell (p := ⟨g, 2, none⟩) (fun _ => rfl) _) ?_⟩
  rintro g' hg' rfl
  exact ho.ne_blk hg' hh (by decide)
theorem RD.drewN {w : World} {g : Nat} {bs : List UInt8} {at_ : Nat} {e : Int} (h : RD w g bs at_ e) (n : Nat) : RD (w.drewN n) g bs at_ e := h

theorem num_cut {w : World} {B : Nat} {A : Option Addr} {bs : List UInt8} {c at_ : Nat} (r : Value) (hr : Rd w B A (by8 bs)) (h1 : bs.length ≤ c) (h2 : c ≤ maxLen) (h3 : at_ ≤ bs.length) (nq : Nat) :
    Calls Try.prog 37 #[r, .slice (if c = at_ then A else A.map (·.add at_)) (bs.length - at_) (c - at_)] (w.drewN nq) fun e w' => e = .returned (numV (dec 0 0 (bs.drop at_))) ∧ w' = w.drewN nq :=
  (number_any r _ _ _ B (bs.drop at_) (w.drewN nq) (by simp) (by omega) (by omega) (by rw [by8_drop]; exact Rd.cut (w := w) hr (by rw [by8_length]; exact h1))).mono fun _ _ ⟨a, b⟩ => ⟨a, b.symm⟩

theorem num_none {w : World} {B : Nat} {A : Option Addr} {bs : List UInt8} {c at_ : Nat} (r : Value) (hr : Rd w B A (by8 bs)) (h1 : bs.length ≤ c) (h2 : c ≤ maxLen) (h3 : at_ ≤ bs.length) (hd : dec 0 0 (bs.drop at_) = none) (nq : Nat) :
    Calls Try.prog 37 #[r, .slice (if c = at_ then A else A.map (·.add at_)) (bs.length - at_) (c - at_)] (w.drewN nq) fun e w' => e = .returned (.tuple #[.int .u64 0, .int .i64 (-1)]) ∧ w' = w.drewN nq := by
  have h := num_cut r hr h1 h2 h3 nq
  rw [hd] at h
  exact h
theorem num_some {w : World} {B : Nat} {A : Option Addr} {bs : List UInt8} {c at_ u k : Nat} (r : Value) (hr : Rd w B A (by8 bs)) (h1 : bs.length ≤ c) (h2 : c ≤ maxLen) (h3 : at_ ≤ bs.length) (hd : dec 0 0 (bs.drop at_) = some (u, k)) (nq : Nat) :
    Calls Try.prog 37 #[r, .slice (if c = at_ then A else A.map (·.add at_)) (bs.length - at_) (c - at_)] (w.drewN nq) fun e w' => e = .returned (.tuple #[.int .u64 u, .int .i64 k]) ∧ w' = w.drewN nq := by
  have h := num_cut r hr h1 h2 h3 nq
  rw [hd] at h
  exact h
theorem dec_le : ∀ (bs : List UInt8) (i acc u k : Nat), dec i acc bs = some (u, k) → i < k ∧ k ≤ i + bs.length
  | [], i, acc, u, k, h => by simp [dec] at h
  | b :: r, i, acc, u, k, h => by
    rw [dec] at h
    split at h
    · cases h
    · split at h
      · cases h
      · split at h
        · split at h
          · cases h
          · injection h with h; injection h with _ h; simp; omega
        · have := dec_le r _ _ u k h
          simp; omega

/-- what a reader's call leaves: value, place, error. -/
def RDRet (v : Value) (w : World) (g : Nat) (bs : List UInt8) (at_ : Nat) (e : Int) (en : Ending) (w' : World) : Prop := en = .returned v ∧ RD w' g bs at_ e ∧ Fr (Is g) w w'

set_option maxRecDepth 100000 in
set_option maxHeartbeats 400000 in
theorem takeU_bad (g : Nat) (bs : List UInt8) (at_ : Nat) (w : World) (h : RD w g bs at_ 0) (hd : dec 0 0 (bs.drop at_) = none) :
    Calls Try.prog 36 #[.pointer (some ⟨g, 0, none⟩), .func (.func 37) #[.pointer (some ⟨g, 0, none⟩)] #[]] w (RDRet (.int .u64 0) w g bs at_ 20) := by
  obtain ⟨A, c, ⟨c0, c1, c2⟩, hf, h1, h2, h3, h4, hr⟩ := h.parts
  have HN := hide (num_none (.pointer (some ⟨g, 0, none⟩)) hr h1 h2 h3 hd)
  have H := hide h
  clear h hr hd
  go_enter Try.func36, Try.ntmps36
  go_wp2_with (fail)
  go_quiet ((go_at_call 37; exact Calls.quiet_of_same (HN.out _)))
  go_wp2
  all_goals
    go_ret
    exact ⟨rfl, (H.out.drewN _).set2 20, ((Fr.refl _ _).drewN _).put _ _⟩

set_option maxRecDepth 100000 in
set_option maxHeartbeats 400000 in
theorem takeU_ok (g : Nat) (bs : List UInt8) (at_ u k : Nat) (w : World) (h : RD w g bs at_ 0) (hd : dec 0 0 (bs.drop at_) = some (u, k)) :
    Calls Try.prog 36 #[.pointer (some ⟨g, 0, none⟩), .func (.func 37) #[.pointer (some ⟨g, 0, none⟩)] #[]] w (RDRet (.int .u64 u) w g bs (at_ + k) 0) := by
  obtain ⟨A, c, ⟨c0, c1, c2⟩, hf, h1, h2, h3, h4, hr⟩ := h.parts
  have HN := hide (num_some (.pointer (some ⟨g, 0, none⟩)) hr h1 h2 h3 hd)
  have hk := dec_le _ _ _ _ _ hd
  have hk1 : at_ + k ≤ bs.length := by have := hk.2; simp at this; omega
  have H := hide h
  clear h hr hd hk
  go_enter Try.func36, Try.ntmps36
  go_wp2_with (fail)
  go_quiet ((go_at_call 37; exact Calls.quiet_of_same (HN.out _)))
  go_wp2
  all_goals
    go_ret
    exact ⟨rfl, (H.out.drewN _).set1 _ hk1, ((Fr.refl _ _).drewN _).put _ _⟩

set_option maxRecDepth 100000 in
set_option maxHeartbeats 400000 in
theorem takeU_off (g : Nat) (bs : List UInt8) (at_ : Nat) (e : Int) (w : World) (f : Value) (h : RD w g bs at_ e) (he : e ≠ 0) :
    Calls Try.prog 36 #[.pointer (some ⟨g, 0, none⟩), f] w (RDRet (.int .u64 0) w g bs at_ e) := by
  obtain ⟨A, c, ⟨c0, c1, c2⟩, hf, h1, h2, h3, h4, hr⟩ := h.parts
  have hb : (e != 0) = true := by simpa using he
  have H := hide h
  clear h hr he
  go_enter Try.func36, Try.ntmps36
  go_wp2_with (fail)
  go_ret
  exact ⟨rfl, H.out, Fr.refl _ _⟩

set_option maxRecDepth 100000 in
set_option maxHeartbeats 400000 in
theorem takeU_nil (w : World) (f : Value) :
    Calls Try.prog 36 #[.pointer none, f] w (Ret (.int .u64 0) w) := by
  go_enter Try.func36, Try.ntmps36
  go_wp2_with (fail)
  go_ret
  exact ⟨rfl, rfl⟩

end Go.Proofs.Ytpcoadbbngmpbaa
