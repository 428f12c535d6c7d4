/- first: the chapter's first calls. -/
import Derived.Test.YthbgcmffpnmbeaaVfFr
namespace Go.Proofs.Ythbgcmffpnmbeaa
set_option linter.unusedVariables false
set_option linter.unusedSimpArgs false
open Go.RowKit Go.Maps

def s1 (f : Nat) : Di := (newD.tick.setF f ⟨[], 0⟩).made (.put [97] f)
def s2 (f : Nat) : Di := (s1 f).tick.setF f ⟨[1, 2], 0⟩
def s3 (f : Nat) : Di := (s2 f).tick.setF f ⟨[1, 2], 2⟩
def s4 (f : Nat) : Di := (s3 f).tick.setF f ⟨[1, 2, 3], 2⟩
def s5 (f : Nat) : Di := { (s4 f).tick with dur := (s4 f).now, chs := [] }
def sF (b : Bool) (f : Nat) : Di := if b then s5 f else s4 f
theorem size_new {c : Nat} (h : SizeM newD.now c) : c = 0 := by
  obtain ⟨l, _, h2, rfl⟩ := h
  cases l with
  | nil => rfl
  | cons a r => have := (h2 a).1 (.head _); cases this
theorem fst1 {f c : Nat} (h : SizeM newD.now c) : creS newD [97] f c = (0, s1 f) := by
  obtain rfl := size_new h
  unfold creS
  rw [cal_calm rfl rfl]
  rfl
theorem appF_s1 (f : Nat) : appF (s1 f) [97] = some (f, ⟨[], 0⟩) := appF_some (by simp [s1, Di.made, Ch.app, Ents.put]) (by simp [s1, Di.made, Di.setF])
theorem fst2 (f : Nat) : appS (s1 f) [97] [1, 2] = (0, s2 f) := by
  unfold appS
  rw [cal_calm rfl rfl, appF_s1]
  rfl
theorem appF_s2 (f : Nat) : appF (s2 f) [97] = some (f, ⟨[1, 2], 0⟩) := appF_some (by simp [s2, s1, Di.made, Di.setF, Di.tick, Ch.app, Ents.put]) (by simp [s2, Di.setF])
theorem fst3 (f : Nat) : synS (s2 f) [97] = (0, s3 f) := by
  unfold synS
  rw [cal_calm rfl rfl, appF_s2]
  rfl
theorem appF_s3 (f : Nat) : appF (s3 f) [97] = some (f, ⟨[1, 2], 2⟩) := appF_some (by simp [s3, s2, s1, Di.made, Di.setF, Di.tick, Ch.app, Ents.put]) (by simp [s3, Di.setF])
theorem fst4 (f : Nat) : appS (s3 f) [97] [3] = (0, s4 f) := by
  unfold appS
  rw [cal_calm rfl rfl, appF_s3]
  rfl
theorem fst5 (f : Nat) : sydS (s4 f) = (0, s5 f) := sydS_calm rfl rfl
/-- What first answers. -/
def RetFi (w : World) (b : Bool) (en : Ending) (w' : World) : Prop := ∃ f d, Fsh w w' d (sF b f) 20 ∧ en = .returned (.pointer (some ⟨d, 0, none⟩))
set_option maxRecDepth 100000 in
set_option maxHeartbeats 1600000 in
theorem first_any (w : World) (b : Bool) : Calls Try.prog 34 #[.bool b] w (RetFi w b) := by
  have HNew := hide (fun W => new_any W)
  have h97 : ([97] : Tx).length ≤ maxLen := by unfold maxLen; decide
  have HC1 := hide (fun W d (h : Fsh w W d newD 0) => show Calls Try.prog 35 #[.pointer (some ⟨d, 0, none⟩), .string ⟨#[97]⟩] W (fun en w' => en = .returned (.int .i64 0) ∧ ∃ f, Fsh w w' d (s1 f) 3) from
    (fcreate (t := [97]) h (by omega) h97).mono fun en w' hq => by
      obtain ⟨f, c, h1, h2, h3, h4⟩ := hq
      rw [fst1 h1] at h3 h4
      exact ⟨h3, f, h4⟩)
  have HC2 := hide (fun W d f (h : Fsh w W d (s1 f) 3) => show Calls Try.prog 37 #[.pointer (some ⟨d, 0, none⟩), .string ⟨#[97]⟩, .slice (some ⟨W.heap.size, 0, none⟩) 2 2] (W.alloc (.cells #[.int .u8 1, .int .u8 2] 5)) (fun en w' => en = .returned (.int .i64 0) ∧ Fsh w w' d (s2 f) 6) from
    (fappend (t := [97]) (bs := [1, 2]) h (by omega) h97 (by simp [s1, Di.made, Di.setF, Di.tick, newD]) rfl (by decide)).mono fun en w' hq => by
      rw [fst2] at hq
      exact hq)
  have HC3 := hide (fun W d f (h : Fsh w W d (s2 f) 6) => show Calls Try.prog 12 #[.pointer (some ⟨d, 0, none⟩), .string ⟨#[97]⟩] W (fun en w' => en = .returned (.int .i64 0) ∧ Fsh w w' d (s3 f) 9) from
    (fsync (t := [97]) h (by omega) h97).mono fun en w' hq => by
      rw [fst3] at hq
      exact hq)
  have HC4 := hide (fun W d f (h : Fsh w W d (s3 f) 9) => show Calls Try.prog 37 #[.pointer (some ⟨d, 0, none⟩), .string ⟨#[97]⟩, .slice (some ⟨W.heap.size, 0, none⟩) 1 1] (W.alloc (.cells #[.int .u8 3] 5)) (fun en w' => en = .returned (.int .i64 0) ∧ Fsh w w' d (s4 f) 12) from
    (fappend (t := [97]) (bs := [3]) h (by omega) h97 (by simp [s3, s2, s1, Di.made, Di.setF, Di.tick, newD]) rfl (by decide)).mono fun en w' hq => by
      rw [fst4] at hq
      exact hq)
  have HC5 := hide (fun W d f (h : Fsh w W d (s4 f) 12) => show Calls Try.prog 13 #[.pointer (some ⟨d, 0, none⟩)] W (fun en w' => en = .returned (.int .i64 0) ∧ Fsh w w' d (s5 f) 15) from
    (fsyncdir h (by omega)).mono fun en w' hq => by
      rw [fst5] at hq
      exact hq)
  clear h97
  cases b
  all_goals
    go_enter Try.func34, Try.ntmps34
    go_wp2_with (first
      | (go_at_call 9; refine (HNew.out _).mono ?_; rintro e w1 ⟨rfl, hf1, hd1⟩; have F1 := hide (Fsh.of_new hf1 hd1); clear hf1 hd1)
      | (go_at_call 35; refine (HC1.out _ _ F1.out).mono ?_; rintro e w2 ⟨rfl, f, h2⟩; have F2 := hide h2; clear h2)
      | (go_at_call 12; refine (HC3.out _ _ f F3.out).mono ?_; rintro e w4 ⟨rfl, h4⟩; have F4 := hide h4; clear h4)
      | (go_at_call 13; refine (HC5.out _ _ f F5.out).mono ?_; rintro e w6 ⟨rfl, h6⟩; have F6 := hide h6; clear h6)
      | (go_at_call 37; refine (HC4.out _ _ f F4.out).mono ?_; rintro e w5 ⟨rfl, h5⟩; have F5 := hide h5; clear h5)
      | (go_at_call 37; refine (HC2.out _ _ f F2.out).mono ?_; rintro e w3 ⟨rfl, h3⟩; have F3 := hide h3; clear h3))
    go_ret
  · exact ⟨f, _, F5.out.mono (by omega), rfl⟩
  · exact ⟨f, _, F6.out.mono (by omega), rfl⟩
end Go.Proofs.Ythbgcmffpnmbeaa
