/- awake: the chapter's first crash. -/
import Derived.Test.YthbgcmffpnmbeaaVfFi
namespace Go.Proofs.Ythbgcmffpnmbeaa
set_option linter.unusedVariables false
set_option linter.unusedSimpArgs false
open Go.RowKit Go.Maps

theorem keys_one {f : Nat} : KeysL (Ents.put (fun _ => none) [97] f) [[97]] := by
  refine ⟨List.pairwise_singleton _ _, fun k => ?_⟩
  simp only [Ents.put, List.mem_singleton]
  split
  · rename_i e; simp [e]
  · rename_i e; simp [e]
theorem inv_s4 (f : Nat) : Inv (s4 f) := by
  have e : (s4 f).now = Ents.put (fun _ => none) [97] f := rfl
  have hk : ∀ k g, (s4 f).now k = some g → k = [97] ∧ g = f := fun k g h => by
    rw [e] at h
    simp only [Ents.put] at h
    split at h
    · rename_i e1; exact ⟨e1, (Option.some.inj h).symm⟩
    · cases h
  refine ⟨rfl, rfl, fun k g h => ?_, fun k g h => (by cases h), fun c hc => ?_, fun k k' g h h' => ?_, fun k g h => ?_⟩
  · rw [(hk k g h).1]; rfl
  · have : c = .put [97] f := by simpa [s4, s3, s2, s1, Di.made, Di.setF, Di.tick, newD] using hc
    subst this
    rfl
  · rw [(hk _ _ h).1, (hk _ _ h').1]
  · rw [(hk _ _ h).2]; simp [s4, Di.setF]
theorem inv_s5 (f : Nat) : Inv (s5 f) := ⟨rfl, rfl, (inv_s4 f).gn, (inv_s4 f).gn, fun c hc => (by cases hc), (inv_s4 f).inj, (inv_s4 f).nf⟩
theorem s5_held {f : Nat} {ks : List Tx} {C : Di} {l : List Int} {c : Nat} (h : CrashR (s5 f) l ks C) (hc : hdC l = c) : heldB C [[97]] [(keep ⟨[1, 2, 3], 2⟩ c).b] := by
  have hk : ks = [[97]] := h.keys.uniq keys_one
  subst hk
  refine h.held (inv_s5 f).gds rfl fun i k g x hi hl hx => ?_
  have hi0 : i = 0 := by have := (List.getElem?_eq_some_iff.1 hi).1; simp at this; omega
  subst hi0
  obtain rfl : [97] = k := by simpa using hi
  have hg : some f = some g := hl
  obtain rfl := Option.some.inj hg
  have hxx : some (⟨[1, 2, 3], 2⟩ : Fi) = some x := by rw [← hx]; simp [s5, s4, Di.setF, Di.tick]
  obtain rfl := Option.some.inj hxx
  rw [← hc]
  rfl
theorem s4_held {f : Nat} {ks : List Tx} {C : Di} {c : Nat} (h : CrashR (s4 f) [1, c] ks C) (hc0 : c < 1000) : heldB C [[97]] [(keep ⟨[1, 2, 3], 2⟩ c).b] := by
  have hk : ks = [[97]] := h.keys.uniq keys_one
  subst hk
  refine h.held (inv_s4 f).gds rfl fun i k g x hi hl hx => ?_
  have hi0 : i = 0 := by have := (List.getElem?_eq_some_iff.1 hi).1; simp at this; omega
  subst hi0
  obtain rfl : [97] = k := by simpa using hi
  have hg : some f = some g := hl
  obtain rfl := Option.some.inj hg
  have hxx : some (⟨[1, 2, 3], 2⟩ : Fi) = some x := by rw [← hx]; simp [s4, Di.setF]
  obtain rfl := Option.some.inj hxx
  have e : hdC (([1, (c : Int)] : List Int).drop ((s4 f).chs.length + 0)) = c := by
    show hdC [(c : Int)] = c
    rw [hdC_cons, if_neg (by omega)]
    omega
  rw [e]
  rfl
section
variable {w0 w w' : World} {d N : Nat} {S : Di}
theorem fheld {A B : Option Addr} {n c m cb B0 B1 : Nat} {names : List Tx} {bss : List (List UInt8)} (h : Fsh w0 w d S N) (hN : N ≤ 1099511627776)
    (hl : names.length = n) (hn : n ≤ c) (hc : c ≤ maxLen) (hr : Rd w B0 A (svs names)) (ht : ∀ t ∈ names, t.length ≤ maxLen) (hlb : bss.length = m) (hm : m ≤ cb) (hcb : cb ≤ maxLen) (hb : BSl w B1 B bss) :
    Calls Try.prog 16 #[.pointer (some ⟨d, 0, none⟩), .slice A n c, .slice B m cb] w (RetH w (heldB S names bss)) := by
  obtain ⟨Z, ⟨p, hd⟩, hz, hf⟩ := h
  exact held_any w Z d N S p A B n c m cb B0 B1 names bss hd hN hl hn hc hr ht hlb hm hcb hb
/-- held, asked of one file 'a'. -/
theorem held_lit {bs : List UInt8} {n : Nat} {name : Tx} (h : Fsh w0 w d S N) (hN : N ≤ 1099511627776) (hb : bs.length = n) (hn : n ≤ 1000) (ht : name.length ≤ maxLen) :
    Calls Try.prog 16 #[.pointer (some ⟨d, 0, none⟩), .slice (some ⟨w.heap.size, 0, none⟩) 1 1, .slice (some ⟨w.heap.size + 2, 0, none⟩) 1 1]
      (((w.alloc (.cells #[sv name] 9)).alloc (.cells ⟨by8 bs⟩ 5)).alloc (.cells #[.slice (some ⟨w.heap.size + 1, 0, none⟩) n n] 35))
      (fun en w' => ∃ b : Bool, en = .returned (.bool b) ∧ (b = true ↔ heldB S [name] [bs]) ∧ Fr No w w') := by
  obtain ⟨w1, hw1⟩ : ∃ W, W = w.alloc (.cells #[sv name] 9) := ⟨_, rfl⟩
  obtain ⟨w2, hw2⟩ : ∃ W, W = w1.alloc (.cells ⟨by8 bs⟩ 5) := ⟨_, rfl⟩
  obtain ⟨w3, hw3⟩ : ∃ W, W = w2.alloc (.cells #[.slice (some ⟨w.heap.size + 1, 0, none⟩) n n] 35) := ⟨_, rfl⟩
  have z1 : w1.heap.size = w.heap.size + 1 := by rw [hw1]; simp
  have z2 : w2.heap.size = w.heap.size + 2 := by rw [hw2]; simp [z1]
  have b1 : w1.heap[w.heap.size]? = some (.cells #[sv name] 9 (0, 0)) := by rw [hw1]; exact heap_alloc_new w _
  have b2 : w2.heap[w.heap.size + 1]? = some (.cells ⟨by8 bs⟩ 5 (0, 0)) := by rw [← z1, hw2]; exact heap_alloc_new w1 _
  have b3 : w3.heap[w.heap.size + 2]? = some (.cells #[.slice (some ⟨w.heap.size + 1, 0, none⟩) n n] 35 (0, 0)) := by rw [← z2, hw3]; exact heap_alloc_new w2 _
  have f1 : Fr No w w1 := by rw [hw1]; exact (Fr.refl No w).alloc _
  have f2 : Fr No w1 w2 := by rw [hw2]; exact (Fr.refl No w1).alloc _
  have f3 : Fr No w2 w3 := by rw [hw3]; exact (Fr.refl No w2).alloc _
  have c1 := f3.blk (f2.blk b1 (fun h => h)) (fun h => h)
  have c2 := f3.blk b2 (fun h => h)
  rw [← hw1, ← hw2, ← hw3]
  have hbl : BSl w3 (w.heap.size + 3) (some ⟨w.heap.size + 2, 0, none⟩) [bs] := fun j b hj => by
    have hj0 : j = 0 := by have := (List.getElem?_eq_some_iff.1 hj).1; simp at this; omega
    subst hj0
    obtain rfl : bs = b := by simpa using hj
    refine ⟨⟨w.heap.size + 2, 0, none⟩, some ⟨w.heap.size + 1, 0, none⟩, n, rfl, by simp, ?_, by omega, by unfold maxLen; omega, ?_⟩
    · rw [Addr.add_lit, Nat.zero_add, cell_of_row w3 _ 0 _ _ _ b3, hb]; rfl
    · exact (Rd.block c2).more (by omega)
  refine (fheld ((h.fr0 f1).fr0 (f2.tr f3)) hN (names := [name]) (bss := [bs]) (n := 1) (m := 1) rfl (Nat.le_refl _) (by unfold maxLen; omega) (Rd.block c1) (fun t h => by rw [List.mem_singleton.1 h]; exact ht) rfl (Nat.le_refl _) (by unfold maxLen; omega) hbl).mono fun en w' hq => ?_
  obtain ⟨b, h1, h2, h3⟩ := hq
  exact ⟨b, h1, h2, ((f1.tr f2).tr f3).tr h3⟩
/-- Crash, with choices that were laid just ahead. -/
theorem crash_lit {l : List Int} {n : Nat} (h : Fsh w0 w d S N) (hN : N ≤ 1099511627000) (hl : l.length = n) (hn : n ≤ 1000) (hw : ∀ z ∈ l, 0 ≤ z ∧ z ≤ 1000) :
    Calls Try.prog 14 #[.pointer (some ⟨d, 0, none⟩), .slice (some ⟨w.heap.size, 0, none⟩) n n] (w.alloc (.cells ⟨iz .i64 l⟩ 3)) (fun en w' => ∃ ks C x, CrashR S l ks C ∧ en = .returned (.pointer (some ⟨x, 0, none⟩)) ∧ Fsh w0 w' x C N ∧ Fsh w0 w' d S N) := by
  have f1 : Fr No w (w.alloc (.cells ⟨iz .i64 l⟩ 3)) := (Fr.refl No w).alloc _
  refine (fcrash (h.fr0 f1) hN hl (Nat.le_refl _) (by unfold maxLen; omega) (Rd.block (heap_alloc_new w _)) (by simp) (fun z hz => by have := hw z hz; omega)).mono fun en w' hq => ?_
  obtain ⟨ks, C, x, h1, h2, h3, h4⟩ := hq
  exact ⟨ks, C, x, h1, h2, h3.lower (h.frame.tr f1), h4⟩
end
set_option maxRecDepth 100000 in
set_option maxHeartbeats 3200000 in
theorem awake_any (w : World) : Calls Try.prog 8 #[] w (fun en w' => en = .returned (.bool true) ∧ Fr No w w') := by
  have HFi := hide (fun W b => first_any W b)
  have h97 : ([97] : Tx).length ≤ maxLen := by unfold maxLen; decide
  have HC1 := hide (fun w0 W d f (h : Fsh w0 W d (sF true f) 20) => show Calls Try.prog 14 #[.pointer (some ⟨d, 0, none⟩), .slice (some ⟨W.heap.size, 0, none⟩) 1 1] (W.alloc (.cells #[.int .i64 1] 3)) (fun en w' => ∃ C x, Hid (heldB C [[97]] [[1, 2, 3]]) ∧ en = .returned (.pointer (some ⟨x, 0, none⟩)) ∧ Fsh w0 w' x C 20) from
    (crash_lit (l := [1]) h (by omega) rfl (by decide) (fun z hz => by rw [List.mem_singleton.1 hz]; omega)).mono fun en w' hq => by
      obtain ⟨ks, C, x, h1, h2, h3, _⟩ := hq
      exact ⟨C, x, hide (s5_held (c := 1) h1 rfl), h2, h3⟩)
  have HC2 := hide (fun w0 W d f (h : Fsh w0 W d (sF false f) 20) => show Calls Try.prog 14 #[.pointer (some ⟨d, 0, none⟩), .slice (some ⟨W.heap.size, 0, none⟩) 2 2] (W.alloc (.cells #[.int .i64 1, .int .i64 0] 3)) (fun en w' => ∃ C x, Hid (heldB C [[97]] [[1, 2]]) ∧ en = .returned (.pointer (some ⟨x, 0, none⟩)) ∧ Fsh w0 w' x C 20) from
    (crash_lit (l := [1, 0]) h (by omega) rfl (by decide) (fun z hz => by simp at hz; omega)).mono fun en w' hq => by
      obtain ⟨ks, C, x, h1, h2, h3, _⟩ := hq
      exact ⟨C, x, hide (s4_held (c := 0) h1 (by omega)), h2, h3⟩)
  have HH1 := hide (fun w0 W d C (h : Fsh w0 W d C 20) (hP : heldB C [[97]] [[1, 2, 3]]) => show Calls Try.prog 16 #[.pointer (some ⟨d, 0, none⟩), .slice (some ⟨W.heap.size, 0, none⟩) 1 1, .slice (some ⟨W.heap.size + 2, 0, none⟩) 1 1]
      (((W.alloc (.cells #[.string ⟨#[97]⟩] 9)).alloc (.cells #[.int .u8 1, .int .u8 2, .int .u8 3] 5)).alloc (.cells #[.slice (some ⟨W.heap.size + 1, 0, none⟩) 3 3] 35)) (fun en w' => en = .returned (.bool true) ∧ Fr No w0 w') from
    (held_lit (bs := [1, 2, 3]) (name := [97]) h (by omega) rfl (by decide) h97).mono fun en w' hq => by
      obtain ⟨b, h1, h2, h3⟩ := hq
      rw [h2.2 hP] at h1
      exact ⟨h1, h.frame.tr h3⟩)
  have HH2 := hide (fun w0 W d C (h : Fsh w0 W d C 20) (hP : heldB C [[97]] [[1, 2]]) => show Calls Try.prog 16 #[.pointer (some ⟨d, 0, none⟩), .slice (some ⟨W.heap.size, 0, none⟩) 1 1, .slice (some ⟨W.heap.size + 2, 0, none⟩) 1 1]
      (((W.alloc (.cells #[.string ⟨#[97]⟩] 9)).alloc (.cells #[.int .u8 1, .int .u8 2] 5)).alloc (.cells #[.slice (some ⟨W.heap.size + 1, 0, none⟩) 2 2] 35)) (fun en w' => en = .returned (.bool true) ∧ Fr No w0 w') from
    (held_lit (bs := [1, 2]) (name := [97]) h (by omega) rfl (by decide) h97).mono fun en w' hq => by
      obtain ⟨b, h1, h2, h3⟩ := hq
      rw [h2.2 hP] at h1
      exact ⟨h1, h.frame.tr h3⟩)
  clear h97
  go_enter Try.func8, Try.ntmps8
  go_wp2_with (first
    | (go_at_call 34; refine (HFi.out w6 false).mono ?_; rintro e w7 ⟨f7, d7, h7, rfl⟩; have F7 := hide h7; clear h7)
    | (go_at_call 16; refine (HH2.out _ _ _ _ F5.out P5.out).mono ?_; rintro e w6 ⟨rfl, h6⟩; have F6 := hide h6; clear h6)
    | (go_at_call 14; refine (HC2.out _ _ _ _ F4.out).mono ?_; rintro e w5 ⟨C5, x5, P5, rfl, h5⟩; have F5 := hide h5; clear h5)
    | (go_at_call 34; refine (HFi.out w3 false).mono ?_; rintro e w4 ⟨f4, d4, h4, rfl⟩; have F4 := hide h4; clear h4)
    | (go_at_call 16; refine (HH1.out _ _ _ _ F2.out P2.out).mono ?_; rintro e w3 ⟨rfl, h3⟩; have F3 := hide h3; clear h3)
    | (go_at_call 14; refine (HC1.out _ _ _ _ F1.out).mono ?_; rintro e w2 ⟨C2, x2, P2, rfl, h2⟩; have F2 := hide h2; clear h2)
    | (go_at_call 34; refine (HFi.out w true).mono ?_; rintro e w1 ⟨f1, d1, h1, rfl⟩; have F1 := hide h1; clear h1))
  go_ret
  exact ⟨rfl, (F3.out.tr F6.out).tr F7.out.frame⟩
end Go.Proofs.Ythbgcmffpnmbeaa
