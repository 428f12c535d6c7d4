/- VfsKnown, walked. -/
import Derived.Test.YthbgcmffpnmbeaaVfKf
namespace Go.Proofs.Ythbgcmffpnmbeaa
set_option linter.unusedVariables false
set_option linter.unusedSimpArgs false
open Go.RowKit Go.Maps

theorem l1 (a : UInt8) : ([a] : Tx).length ≤ maxLen := by show 1 ≤ maxLen; unfold maxLen; omega
theorem l0 : ([] : Tx).length ≤ maxLen := Nat.zero_le _
section
variable {w0 w : World} {d f : Nat}
theorem k1 (h : Fsh w0 w d newD 0) : Calls Try.prog 35 #[.pointer (some ⟨d, 0, none⟩), .string ⟨#[97]⟩] w (fun en w' => en = .returned (.int .i64 0) ∧ ∃ f, Fsh w0 w' d (s1 f) 3) :=
  (fcreate (t := [97]) h (by omega) (l1 _)).mono fun en w' hq => by
    obtain ⟨f, c, h1, h2, h3, h4⟩ := hq
    rw [fst1 h1] at h3 h4
    exact ⟨h3, f, h4⟩
theorem k2 (h : Fsh w0 w d (s1 f) 3) : Calls Try.prog 13 #[.pointer (some ⟨d, 0, none⟩)] w (fun en w' => en = .returned (.int .i64 0) ∧ Fsh w0 w' d (a2 f) 6) :=
  (fsyncdir h (by omega)).mono fun en w' hq => by
    rw [a_syd] at hq
    exact hq
theorem k3 (h : Fsh w0 w d (a2 f) 6) : Calls Try.prog 36 #[.pointer (some ⟨d, 0, none⟩), .string ⟨#[97]⟩, .string ⟨#[98]⟩] w (fun en w' => en = .returned (.int .i64 0) ∧ Fsh w0 w' d (a3 f) 9) :=
  (frename (s := [97]) (t := [98]) h (by omega) (l1 _) (l1 _)).mono fun en w' hq => by
    rw [a_ren] at hq
    exact hq
theorem k5 (h : Fsh w0 w d x0 0) : Calls Try.prog 35 #[.pointer (some ⟨d, 0, none⟩), .string ⟨#[97]⟩] w (fun en w' => en = .returned (.int .i64 0) ∧ ∃ f, Fsh w0 w' d (x1 f) 3) :=
  (fcreate (t := [97]) h (by omega) (l1 _)).mono fun en w' hq => by
    obtain ⟨f, c, h1, h2, h3, h4⟩ := hq
    rw [x_cre h1] at h3 h4
    exact ⟨h3, f, h4⟩
theorem k6 (h : Fsh w0 w d (x1 f) 3) : Calls Try.prog 37 #[.pointer (some ⟨d, 0, none⟩), .string ⟨#[97]⟩, .slice (some ⟨w.heap.size, 0, none⟩) 3 3] (w.alloc (.cells #[.int .u8 1, .int .u8 2, .int .u8 3] 5)) (fun en w' => en = .returned (.int .i64 12) ∧ Fsh w0 w' d (x2 f) 6) :=
  (fappend (t := [97]) (bs := [1, 2, 3]) h (by omega) (l1 _) (by show (4 : Int) ≤ _; omega) rfl (by decide)).mono fun en w' hq => by
    rw [x_ap1] at hq
    exact hq
theorem k7 (h : Fsh w0 w d (x2 f) 6) : Calls Try.prog 37 #[.pointer (some ⟨d, 0, none⟩), .string ⟨#[97]⟩, .slice (some ⟨w.heap.size, 0, none⟩) 1 1] (w.alloc (.cells #[.int .u8 9] 5)) (fun en w' => en = .returned (.int .i64 0) ∧ Fsh w0 w' d (x3 f) 9) :=
  (fappend (t := [97]) (bs := [9]) h (by omega) (l1 _) (by show (4 : Int) ≤ _; omega) rfl (by decide)).mono fun en w' hq => by
    rw [x_ap2] at hq
    exact hq
theorem k9 (h : Fsh w0 w d y0 0) : Calls Try.prog 35 #[.pointer (some ⟨d, 0, none⟩), .string ⟨#[97]⟩] w (fun en w' => en = .returned (.int .i64 0) ∧ ∃ f, Fsh w0 w' d (y1 f) 3) :=
  (fcreate (t := [97]) h (by omega) (l1 _)).mono fun en w' hq => by
    obtain ⟨f, c, h1, h2, h3, h4⟩ := hq
    rw [y_cre h1] at h3 h4
    exact ⟨h3, f, h4⟩
theorem k10 (h : Fsh w0 w d (y1 f) 3) : Calls Try.prog 35 #[.pointer (some ⟨d, 0, none⟩), .string ⟨#[98]⟩] w (fun en w' => en = .returned (.int .i64 14) ∧ Fsh w0 w' d (y2 f) 6) :=
  (fcreate (t := [98]) h (by omega) (l1 _)).mono fun en w' hq => by
    obtain ⟨g, c, h1, h2, h3, h4⟩ := hq
    rw [y_cr2] at h3 h4
    exact ⟨h3, h4⟩
theorem m1 (h : Fsh w0 w d newD 0) : Calls Try.prog 35 #[.pointer (some ⟨d, 0, none⟩), .string ⟨#[65]⟩] w (fun en w' => en = .returned (.int .i64 1) ∧ Fsh w0 w' d z1 3) :=
  (fcreate (t := [65]) h (by omega) (l1 _)).mono fun en w' hq => by
    obtain ⟨g, c, h1, h2, h3, h4⟩ := hq
    rw [z_cr1] at h3 h4
    exact ⟨h3, h4⟩
theorem m2 (h : Fsh w0 w d z1 3) : Calls Try.prog 35 #[.pointer (some ⟨d, 0, none⟩), .string ⟨#[]⟩] w (fun en w' => en = .returned (.int .i64 1) ∧ Fsh w0 w' d z2 6) :=
  (fcreate (t := []) h (by omega) l0).mono fun en w' hq => by
    obtain ⟨g, c, h1, h2, h3, h4⟩ := hq
    rw [z_cr2] at h3 h4
    exact ⟨h3, h4⟩
theorem m3 (h : Fsh w0 w d z2 6) : Calls Try.prog 35 #[.pointer (some ⟨d, 0, none⟩), .string ⟨#[97]⟩] w (fun en w' => en = .returned (.int .i64 0) ∧ ∃ f, Fsh w0 w' d (z3 f) 9) :=
  (fcreate (t := [97]) h (by omega) (l1 _)).mono fun en w' hq => by
    obtain ⟨f, c, h1, h2, h3, h4⟩ := hq
    rw [z_cr3 h1] at h3 h4
    exact ⟨h3, f, h4⟩
theorem m4 (h : Fsh w0 w d (z3 f) 9) : Calls Try.prog 35 #[.pointer (some ⟨d, 0, none⟩), .string ⟨#[97]⟩] w (fun en w' => en = .returned (.int .i64 11) ∧ Fsh w0 w' d (z4 f) 12) :=
  (fcreate (t := [97]) h (by omega) (l1 _)).mono fun en w' hq => by
    obtain ⟨g, c, h1, h2, h3, h4⟩ := hq
    rw [z_cr4] at h3 h4
    exact ⟨h3, h4⟩
theorem m5 (h : Fsh w0 w d (z4 f) 12) : Calls Try.prog 37 #[.pointer (some ⟨d, 0, none⟩), .string ⟨#[98]⟩, .slice none 0 0] w (fun en w' => en = .returned (.int .i64 10) ∧ Fsh w0 w' d (z5 f) 15) :=
  (fappend0 (t := [98]) h (by omega) (l1 _) (by show (0 : Int) ≤ _; omega)).mono fun en w' hq => by
    rw [z_app] at hq
    exact hq
theorem m6 (h : Fsh w0 w d (z5 f) 15) : Calls Try.prog 36 #[.pointer (some ⟨d, 0, none⟩), .string ⟨#[98]⟩, .string ⟨#[99]⟩] w (fun en w' => en = .returned (.int .i64 10) ∧ Fsh w0 w' d (z6 f) 18) :=
  (frename (s := [98]) (t := [99]) h (by omega) (l1 _) (l1 _)).mono fun en w' hq => by
    rw [z_ren1] at hq
    exact hq
theorem m7 (h : Fsh w0 w d (z6 f) 18) : Calls Try.prog 36 #[.pointer (some ⟨d, 0, none⟩), .string ⟨#[97]⟩, .string ⟨#[97]⟩] w (fun en w' => en = .returned (.int .i64 0) ∧ Fsh w0 w' d (z7 f) 21) :=
  (frename (s := [97]) (t := [97]) h (by omega) (l1 _) (l1 _)).mono fun en w' hq => by
    rw [z_ren2] at hq
    exact hq
theorem m8 (h : Fsh w0 w d (z7 f) 21) : Calls Try.prog 38 #[.pointer (some ⟨d, 0, none⟩), .string ⟨#[98]⟩] w (fun en w' => en = .returned (.int .i64 10) ∧ Fsh w0 w' d (z8 f) 24) :=
  (fdelete (t := [98]) h (by omega) (l1 _)).mono fun en w' hq => by
    rw [z_del] at hq
    exact hq
theorem m9 (h : Fsh w0 w d (z8 f) 24) : Calls Try.prog 28 #[.pointer (some ⟨d, 0, none⟩), .string ⟨#[97]⟩, .int .i64 0, .int .u8 1] w (fun en w' => en = .returned (.int .i64 1) ∧ Fr No w w') :=
  fflip (t := [97]) (f := f) (x := ⟨[], 0⟩) h (l1 _) rfl (by simp [z8, z7, z6, z5, z4, z3, Di.made, Di.setF, Di.tick, Ch.app, Ents.put]) (by simp [z8, z7, z6, z5, z4, z3, Di.made, Di.setF, Di.tick]) rfl
theorem k8 (h : Fsh w0 w d newD 0) : Calls Try.prog 26 #[.pointer (some ⟨d, 0, none⟩), .int .i64 1] w (fun en w' => en = .returned (.tuple #[]) ∧ Fsh w0 w' d y0 0) :=
  (fhalt h (by omega)).mono fun en w' hq => by
    rw [y_hal] at hq
    exact hq
theorem k4 (h : Fsh w0 w d newD 0) : Calls Try.prog 20 #[.pointer (some ⟨d, 0, none⟩), .int .i64 2, .int .i64 12, .int .i64 4] w (fun en w' => en = .returned (.tuple #[]) ∧ Fsh w0 w' d x0 0) :=
  (ffail h (by omega)).mono fun en w' hq => by
    rw [x_fai] at hq
    exact hq
theorem k11 (h : Fsh w0 w d (y2 f) 6) : Calls Try.prog 15 #[.pointer (some ⟨d, 0, none⟩), .string ⟨#[97]⟩] w (RetR w [] 14) := by
  have h1 := fread (t := [97]) h (l1 _)
  rw [y_rea] at h1
  exact h1
theorem k12 (h : Fsh w0 w d (a3 f) 9) : Calls Try.prog 21 #[.pointer (some ⟨d, 0, none⟩)] w (Ret (.int .i64 3) w) := fcalls2 h
theorem c1 (h : Fsh w0 w d (sF false f) 20) : Calls Try.prog 14 #[.pointer (some ⟨d, 0, none⟩), .slice (some ⟨w.heap.size, 0, none⟩) 1 1] (w.alloc (.cells #[.int .i64 0] 3)) (fun en w' => ∃ C x, Hid (heldB C [] []) ∧ en = .returned (.pointer (some ⟨x, 0, none⟩)) ∧ Fsh w0 w' x C 20) :=
  (crash_lit (l := [0]) h (by omega) rfl (by decide) (fun z hz => by rw [List.mem_singleton.1 hz]; omega)).mono fun en w' hq => by
    obtain ⟨ks, C, x, h1, h2, h3, _⟩ := hq
    exact ⟨C, x, hide (s4_none h1), h2, h3⟩
theorem c2 (h : Fsh w0 w d (sF true f) 20) : Calls Try.prog 14 #[.pointer (some ⟨d, 0, none⟩), .slice none 0 0] w (fun en w' => ∃ C x, Hid (heldB C [[97]] [[1, 2]]) ∧ en = .returned (.pointer (some ⟨x, 0, none⟩)) ∧ Fsh w0 w' x C 20) :=
  (crash_nil h (by omega)).mono fun en w' hq => by
    obtain ⟨ks, C, x, h1, h2, h3, _⟩ := hq
    exact ⟨C, x, hide (s5_held (c := 0) h1 rfl), h2, h3⟩
theorem c3 (h : Fsh w0 w d (a3 f) 9) : Calls Try.prog 14 #[.pointer (some ⟨d, 0, none⟩), .slice (some ⟨w.heap.size, 0, none⟩) 1 1] (w.alloc (.cells #[.int .i64 0] 3)) (fun en w' => ∃ C x, Hid (heldB C [[97]] [[]]) ∧ en = .returned (.pointer (some ⟨x, 0, none⟩)) ∧ Fsh w0 w' x C 9 ∧ Fsh w0 w' d (a3 f) 9) :=
  (crash_lit (l := [0]) h (by omega) rfl (by decide) (fun z hz => by rw [List.mem_singleton.1 hz]; omega)).mono fun en w' hq => by
    obtain ⟨ks, C, x, h1, h2, h3, h4⟩ := hq
    exact ⟨C, x, hide (a3_old h1), h2, h3, h4⟩
theorem c4 (h : Fsh w0 w d (a3 f) 9) : Calls Try.prog 14 #[.pointer (some ⟨d, 0, none⟩), .slice (some ⟨w.heap.size, 0, none⟩) 1 1] (w.alloc (.cells #[.int .i64 1] 3)) (fun en w' => ∃ C x, Hid (heldB C [[98]] [[]]) ∧ en = .returned (.pointer (some ⟨x, 0, none⟩)) ∧ Fsh w0 w' x C 9 ∧ Fsh w0 w' d (a3 f) 9) :=
  (crash_lit (l := [1]) h (by omega) rfl (by decide) (fun z hz => by rw [List.mem_singleton.1 hz]; omega)).mono fun en w' hq => by
    obtain ⟨ks, C, x, h1, h2, h3, h4⟩ := hq
    exact ⟨C, x, hide (a3_new h1), h2, h3, h4⟩
variable {C : Di} {N : Nat}
theorem h1 (h : Fsh w0 w d C 20) (hp : heldB C [] []) : Calls Try.prog 16 #[.pointer (some ⟨d, 0, none⟩), .slice none 0 0, .slice none 0 0] w (fun en w' => en = .returned (.bool true) ∧ Fr No w w') :=
  (held_none h (by omega)).mono fun en w' hq => by
    obtain ⟨b, h1, h2, h3⟩ := hq
    rw [h2.2 hp] at h1
    exact ⟨h1, h3⟩
theorem h2 (h : Fsh w0 w d C 20) (hp : heldB C [[97]] [[1, 2]]) : Calls Try.prog 16 #[.pointer (some ⟨d, 0, none⟩), .slice (some ⟨w.heap.size, 0, none⟩) 1 1, .slice (some ⟨w.heap.size + 2, 0, none⟩) 1 1]
      (((w.alloc (.cells #[.string ⟨#[97]⟩] 9)).alloc (.cells #[.int .u8 1, .int .u8 2] 5)).alloc (.cells #[.slice (some ⟨w.heap.size + 1, 0, none⟩) 2 2] 35)) (fun en w' => en = .returned (.bool true) ∧ Fr No w w') :=
  (held_lit (bs := [1, 2]) (name := [97]) h (by omega) rfl (by decide) (l1 _)).mono fun en w' hq => by
    obtain ⟨b, h1, h2, h3⟩ := hq
    rw [h2.2 hp] at h1
    exact ⟨h1, h3⟩
theorem h3 (h : Fsh w0 w d C 9) (hp : heldB C [[97]] [[]]) : Calls Try.prog 16 #[.pointer (some ⟨d, 0, none⟩), .slice (some ⟨w.heap.size, 0, none⟩) 1 1, .slice (some ⟨w.heap.size + 1, 0, none⟩) 1 1]
      ((w.alloc (.cells #[.string ⟨#[97]⟩] 9)).alloc (.cells #[.slice none 0 0] 35)) (fun en w' => en = .returned (.bool true) ∧ Fr No w w') :=
  (held_nil (name := [97]) h (by omega) (l1 _)).mono fun en w' hq => by
    obtain ⟨b, h1, h2, h3⟩ := hq
    rw [h2.2 hp] at h1
    exact ⟨h1, h3⟩
theorem h4 (h : Fsh w0 w d C 9) (hp : heldB C [[98]] [[]]) : Calls Try.prog 16 #[.pointer (some ⟨d, 0, none⟩), .slice (some ⟨w.heap.size, 0, none⟩) 1 1, .slice (some ⟨w.heap.size + 1, 0, none⟩) 1 1]
      ((w.alloc (.cells #[.string ⟨#[98]⟩] 9)).alloc (.cells #[.slice none 0 0] 35)) (fun en w' => en = .returned (.bool true) ∧ Fr No w w') :=
  (held_nil (name := [98]) h (by omega) (l1 _)).mono fun en w' hq => by
    obtain ⟨b, h1, h2, h3⟩ := hq
    rw [h2.2 hp] at h1
    exact ⟨h1, h3⟩
theorem h5 (h : Fsh w0 w d (x3 f) 9) : Calls Try.prog 16 #[.pointer (some ⟨d, 0, none⟩), .slice (some ⟨w.heap.size, 0, none⟩) 1 1, .slice (some ⟨w.heap.size + 2, 0, none⟩) 1 1]
      (((w.alloc (.cells #[.string ⟨#[97]⟩] 9)).alloc (.cells #[.int .u8 9] 5)).alloc (.cells #[.slice (some ⟨w.heap.size + 1, 0, none⟩) 1 1] 35)) (fun en w' => en = .returned (.bool true) ∧ Fr No w w') :=
  (held_lit (bs := [9]) (name := [97]) h (by omega) rfl (by decide) (l1 _)).mono fun en w' hq => by
    obtain ⟨b, h1, h2, h3⟩ := hq
    rw [h2.2 (x_held f)] at h1
    exact ⟨h1, h3⟩
end
set_option maxRecDepth 100000 in
set_option maxHeartbeats 6400000 in
theorem vfsKnown_any (w : World) : Calls Try.prog 7 #[] w (fun en w' => en = .returned (.bool true) ∧ Fr No w w') := by
  go_enter Try.func7, Try.ntmps7
  go_wp2_with (first
    | (go_at_call 28; refine (m9 F36.out).mono ?_; rintro en w37 ⟨rfl, q⟩; have E37 := hide q; clear q)
    | (go_at_call 38; refine (m8 F35.out).mono ?_; rintro en w36 ⟨rfl, q⟩; have F36 := hide q; clear q)
    | (go_at_call 36; refine (m7 F34.out).mono ?_; rintro en w35 ⟨rfl, q⟩; have F35 := hide q; clear q)
    | (go_at_call 36; refine (m6 F33.out).mono ?_; rintro en w34 ⟨rfl, q⟩; have F34 := hide q; clear q)
    | (go_at_call 37; refine (m5 F32.out).mono ?_; rintro en w33 ⟨rfl, q⟩; have F33 := hide q; clear q)
    | (go_at_call 35; refine (m4 F31.out).mono ?_; rintro en w32 ⟨rfl, q⟩; have F32 := hide q; clear q)
    | (go_at_call 35; refine (m3 F30.out).mono ?_; rintro en w31 ⟨rfl, f31, q⟩; have F31 := hide q; clear q)
    | (go_at_call 35; refine (m2 F29.out).mono ?_; rintro en w30 ⟨rfl, q⟩; have F30 := hide q; clear q)
    | (go_at_call 35; refine (m1 F28.out).mono ?_; rintro en w29 ⟨rfl, q⟩; have F29 := hide q; clear q)
    | (go_at_call 16; refine (h5 X27.out).mono ?_; rintro en w28 ⟨rfl, q⟩; have F28 := hide (F27.out.fr0 q); clear q)
    | (go_at_call 9; refine (new_any w26).mono ?_; rintro en w27 ⟨rfl, q1, q2⟩; have F27 := hide (Fsh.of_new q1 q2); have X27 := hide (X26.out.fr0 q1); clear q1 q2)
    | (go_at_call 15; refine (k11 F25.out).mono ?_; rintro en w26 ⟨v26, rfl, q1, q2⟩; obtain ⟨A26, c26, rfl, -⟩ := q1.form; have E26 := hide (F25.out.frame.tr q2); have X26 := hide ((F21.out.fr0 F25.out.frame).fr0 q2); clear q1 q2)
    | (go_at_call 35; refine (k10 F24.out).mono ?_; rintro en w25 ⟨rfl, q⟩; have F25 := hide q; clear q)
    | (go_at_call 35; refine (k9 F23.out).mono ?_; rintro en w24 ⟨rfl, f24, q⟩; have F24 := hide q; clear q)
    | (go_at_call 26; refine (k8 F22.out).mono ?_; rintro en w23 ⟨rfl, q⟩; have F23 := hide q; clear q)
    | (go_at_call 9; refine (new_any w21).mono ?_; rintro en w22 ⟨rfl, q1, q2⟩; have F22 := hide (Fsh.of_new q1 q2); clear q1 q2)
    | (go_at_call 37; refine (k7 F20.out).mono ?_; rintro en w21 ⟨rfl, q⟩; have F21 := hide q; clear q)
    | (go_at_call 37; refine (k6 F19.out).mono ?_; rintro en w20 ⟨rfl, q⟩; have F20 := hide q; clear q)
    | (go_at_call 35; refine (k5 F18.out).mono ?_; rintro en w19 ⟨rfl, f19, q⟩; have F19 := hide q; clear q)
    | (go_at_call 20; refine (k4 F17.out).mono ?_; rintro en w18 ⟨rfl, q⟩; have F18 := hide q; clear q)
    | (go_at_call 9; refine (new_any w15).mono ?_; rintro en w17 ⟨rfl, q1, q2⟩; have F17 := hide (Fsh.of_new q1 q2); clear q1 q2)
    | (go_at_call 21; refine (k12 D15.out).mono ?_; rintro en w16 ⟨rfl, rfl⟩; have U16 := hide (show True from trivial))
    | (go_at_call 16; refine (h4 F14.out P14.out).mono ?_; rintro en w15 ⟨rfl, q⟩; have D15 := hide (D14.out.fr0 q); clear q)
    | (go_at_call 14; refine (c4 D13.out).mono ?_; rintro en w14 ⟨C14, x14, P14, rfl, q1, q2⟩; have F14 := hide q1; have D14 := hide q2; clear q1 q2)
    | (go_at_call 16; refine (h3 F12.out P12.out).mono ?_; rintro en w13 ⟨rfl, q⟩; have D13 := hide (D12.out.fr0 q); clear q)
    | (go_at_call 14; refine (c3 F11.out).mono ?_; rintro en w12 ⟨C12, x12, P12, rfl, q1, q2⟩; have F12 := hide q1; have D12 := hide q2; clear q1 q2)
    | (go_at_call 36; refine (k3 F10.out).mono ?_; rintro en w11 ⟨rfl, q⟩; have F11 := hide q; clear q)
    | (go_at_call 13; refine (k2 F9.out).mono ?_; rintro en w10 ⟨rfl, q⟩; have F10 := hide q; clear q)
    | (go_at_call 35; refine (k1 F8.out).mono ?_; rintro en w9 ⟨rfl, f9, q⟩; have F9 := hide q; clear q)
    | (go_at_call 9; refine (new_any w7).mono ?_; rintro en w8 ⟨rfl, q1, q2⟩; have F8 := hide (Fsh.of_new q1 q2); clear q1 q2)
    | (go_at_call 16; refine (h2 F6.out P6.out).mono ?_; rintro en w7 ⟨rfl, q⟩; have E7 := hide (F6.out.frame.tr q); clear q)
    | (go_at_call 14; refine (c2 F5.out).mono ?_; rintro en w6 ⟨C6, x6, P6, rfl, q⟩; have F6 := hide q; clear q)
    | (go_at_call 34; refine (first_any w4 true).mono ?_; rintro en w5 ⟨f5, d5, q, rfl⟩; have F5 := hide q; clear q)
    | (go_at_call 16; refine (h1 F3.out P3.out).mono ?_; rintro en w4 ⟨rfl, q⟩; have E4 := hide (F3.out.frame.tr q); clear q)
    | (go_at_call 14; refine (c1 F2.out).mono ?_; rintro en w3 ⟨C3, x3', P3, rfl, q⟩; have F3 := hide q; clear q)
    | (go_at_call 34; refine (first_any w1 false).mono ?_; rintro en w2 ⟨f2, d2, q, rfl⟩; have F2 := hide q; clear q)
    | (go_at_call 8; refine (awake_any w).mono ?_; rintro en w1 ⟨rfl, q⟩; have E1 := hide q; clear q))
  go_ret
  exact ⟨rfl, ((((((E1.out.tr E4.out).tr E7.out).tr D15.out.frame).tr F21.out.frame).tr E26.out).tr F36.out.frame).tr E37.out⟩
end Go.Proofs.Ythbgcmffpnmbeaa
