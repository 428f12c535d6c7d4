/- BkdOpens, walked. -/
import Derived.Test.YtpopbkcbplmcaaaGreatK15
namespace Go.Proofs.YtpopbkcbplmcaaaGreat
set_option linter.unusedVariables false
set_option linter.unusedSimpArgs false
open Go.RowKit

theorem nodeW_off {bs : List UInt8} {dims : Nat} : ∀ {f a : Nat} {e : Int}, (nodeW bs dims f a e).2.2 = 0 → e = 0
  | 0, a, e, h => by rw [nodeW] at h; cases h
  | f + 1, a, e, h => by
    by_cases h0 : (sizeS bs a e 1).2.2 = 0
    · exact (size_of h0).1
    · rw [nodeW, if_pos h0] at h; cases h
theorem openD_yes {bs : List UInt8} {dims : Nat} {l : List Pt} (h : IsB bs dims l) : ∃ L, openD bs = (dims, L, 0) ∧ L.length = l.length := by
  have hm := h.1
  obtain ⟨m1, m2, m3, m4⟩ := id hm
  have h' : buildT dims l <+: bs.drop 0 := by rw [h.2.2]; exact List.prefix_refl _
  rw [buildT] at h'
  obtain ⟨h1, h2⟩ := pre_app.1 h'
  obtain ⟨h3, h4⟩ := pre_app.1 h1
  have e1 := size_has (most := 4) (by omega) (by omega) h3
  have e2 := size_has (most := 1048576) (by omega) (by omega) h4
  have e3 : nodeW bs dims 41 (0 + (enc dims).length + (enc l.length).length) 0 = _ := nodeW_has (bs := bs) ⟨by omega, by omega⟩ 40 l.length (0 + (enc dims).length + (enc l.length).length) l rfl m3 (by omega) (ok_may hm h.2.1) (by simpa [Nat.add_assoc] using h2)
  have hr : readD bs = (flatT (treeT dims l), bs.length, 0) := by
    unfold readD
    rw [e1]
    dsimp only
    rw [e2]
    dsimp only
    rw [e3]
    congr 2
    have hl := congrArg List.length h.2.2
    rw [hl, buildT]
    simp [Nat.add_assoc]
  have hk : keptP (dims : Nat) (flatT (treeT dims l)) = bs := by
    rw [keptP_perm (flatT_perm dims _ l rfl), keptP_yes hm]; exact h.2.2.symm
  refine ⟨flatT (treeT dims l), ?_, (flatT_perm dims _ l rfl).length_eq⟩
  unfold openD
  rw [hr, e1]
  dsimp only
  rw [if_pos ⟨by unfold endE; rw [if_neg (by omega)], hk⟩]
theorem openD_no {bs : List UInt8} (h : ∀ dims l, ¬ IsB bs dims l) : openD bs = (0, [], 20) := by
  unfold openD
  refine if_neg (fun hc => ?_)
  obtain ⟨h1, h2⟩ := hc
  have hε : (readD bs).2.2 = 0 := by
    unfold endE at h1
    split at h1
    · cases h1
    · exact h1
  have hs2 := nodeW_off hε
  have hs1 := (size_of hs2).1
  obtain ⟨_, _, _, hp, hq⟩ := size_of hs1
  have hp1 := pre_le hp
  have hp2 := (enc_len (sizeS bs 0 0 4).1).1
  have g1 := sizeS_go (bs := bs) (a := 0) (e := 0) (most := 4) (Nat.zero_le _)
  have g2 := sizeS_go (bs := bs) (e := (sizeS bs 0 0 4).2.2) (most := 1048576) g1.2.1
  have g3 := nodeW_go (bs := bs) (dims := (sizeS bs 0 0 4).1) 41 (sizeS bs (sizeS bs 0 0 4).2.1 (sizeS bs 0 0 4).2.2 1048576).2.1 (sizeS bs (sizeS bs 0 0 4).2.1 (sizeS bs 0 0 4).2.2 1048576).2.2 g2.2.1
  have hm : mayP ((sizeS bs 0 0 4).1 : Nat) (readD bs).1 := by
    by_cases hm : mayP ((sizeS bs 0 0 4).1 : Nat) (readD bs).1
    · exact hm
    · rw [keptP_no hm] at h2
      have hl0 := congrArg List.length h2
      rw [List.length_nil] at hl0
      omega
  exact h _ _ ⟨hm, fun p hp => (g3.2.2.2.2 p hp).2.1, by rw [← keptP_yes hm]; exact h2.symm⟩
set_option maxRecDepth 100000 in
set_option maxHeartbeats 1000000 in
theorem count_nil (w : World) : Calls Tryz.prog 8 #[.pointer none, .slice none 0 0, .slice none 0 0] w (fun en w' => en = .returned (.int .i64 0) ∧ Fr No w w') := by
  have hmf : ∀ (fn : Fn) (first cap : Array Value) (w : World), (Instr.makeFunc fn first cap).run Tryz.prog w = .ok (.func fn first cap) w := fun _ _ _ _ => rfl
  have HE := hide (each_nil 18 w.heap.size none none 0 0 0 0 (w.alloc (.cells #[.int .i64 0] 3)))
  have hb := heap_alloc_new w (.cells #[.int .i64 0] 3)
  have HB := hide hb
  clear hb
  go_enter Tryz.func8, Tryz.ntmps8
  go_wp2_with (fail)
  refine HE.out.mono ?_
  rintro en w2 ⟨⟨r, rfl⟩, f⟩
  have HF := hide (((Fr.refl No w).alloc (.cells #[.int .i64 0] 3)).tr f)
  have hk : w2.cell? ⟨w.heap.size, 0, none⟩ = some (.int .i64 0) := cell_of_row w2 _ 0 _ _ _ (f.blk HB.out (fun h => h))
  clear f HE HB
  go_wp2_with (fail)
  go_ret
  exact ⟨rfl, HF.out⟩
set_option maxRecDepth 100000 in
set_option maxHeartbeats 1000000 in
theorem brange_nil (w : World) : Calls Tryz.prog 7 #[.pointer none, .slice none 0 0, .slice none 0 0] w (fun en w' => en = .returned (.slice none 0 0) ∧ Fr No w w') := by
  have hmf : ∀ (fn : Fn) (first cap : Array Value) (w : World), (Instr.makeFunc fn first cap).run Tryz.prog w = .ok (.func fn first cap) w := fun _ _ _ _ => rfl
  have HE := hide (each_nil 15 w.heap.size none none 0 0 0 0 (w.alloc (.cells #[.slice none 0 0] 28)))
  have hb := heap_alloc_new w (.cells #[.slice none 0 0] 28)
  have HB := hide hb
  clear hb
  go_enter Tryz.func7, Tryz.ntmps7
  go_wp2_with (fail)
  refine HE.out.mono ?_
  rintro en w2 ⟨⟨r, rfl⟩, f⟩
  have HF := hide (((Fr.refl No w).alloc (.cells #[.slice none 0 0] 28)).tr f)
  have HB2 := hide (f.blk HB.out (fun h => h))
  have hk : w2.cell? ⟨w.heap.size, 0, none⟩ = some (.slice none 0 0) := cell_of_row w2 _ 0 _ _ _ HB2.out
  have HSo := hide (sortZ_any 0 0 0 none [] w2 (Own.nil _ _ _ _) (by decide))
  clear f HE HB
  go_wp2_with (fail)
  refine HSo.out.mono ?_
  rintro en w3 ⟨rfl, o3, f3⟩
  have HF3 := hide (HF.out.trans f3 (fun i hi e => by cases e))
  have hk3 : w3.cell? ⟨w.heap.size, 0, none⟩ = some (.slice none 0 0) := cell_of_row w3 _ 0 _ _ _ (f3.blk HB2.out (fun e => by cases e))
  have HC := hide (compactZ_any 0 0 0 none [] w3 (Own.nil _ _ _ _) (by decide))
  have e0 : Lib.compact ([] : List Int) = [] := List.eq_nil_of_length_eq_zero (by have := compactZ_le []; simpa using this)
  rw [e0] at HC
  clear o3 f3 hk HSo e0
  go_wp2_with (fail)
  refine HC.out.mono ?_
  rintro en w4 ⟨rfl, o4, f4⟩
  have HF4 := hide (HF3.out.trans f4 (fun i hi e => by cases e))
  clear o4 f4 hk3 HC
  go_wp2_with (fail)
  go_ret
  exact ⟨rfl, HF4.out⟩
set_option maxRecDepth 100000 in
set_option maxHeartbeats 4000000 in
theorem bkdopens_any (A : Option Addr) (m c : Nat) (bs : List UInt8) (w : World) (hl : bs.length = m) (hn : m ≤ c) (hc : c ≤ maxLen) (hb : m ≤ 1048576) (hr : Rd w w.heap.size A (by8 bs)) :
    Calls Tryz.prog 3 #[.slice A m c] w (RetB true w) := by
  have HL := hide hl
  have HR := hide hr
  have HC := hide (And.intro hn hc)
  have HB0 := hide (bounds_nil w)
  have HL0 := hide (blen_nil w)
  have HD0 := hide (bdims_nil w)
  have HR0 := hide (brange_nil w)
  unfold maxLen at hc
  clear hl hr
  go_enter Tryz.func3, Tryz.ntmps3
  go_wp2_with (first
    | (go_at_call 4; refine HB0.out.mono ?_; rintro en w' ⟨rfl, rfl⟩)
    | (go_at_call 5; refine HL0.out.mono ?_; rintro en w' ⟨rfl, rfl⟩)
    | (go_at_call 6; refine HD0.out.mono ?_; rintro en w' ⟨rfl, rfl⟩)
    | (go_at_call 7; refine HR0.out.mono ?_; rintro en w1 ⟨rfl, f1⟩; have HF1 := hide f1; have HC0 := hide (count_nil w1); clear f1)
    | (go_at_call 8; refine HC0.out.mono ?_; rintro en w2 ⟨rfl, f2⟩; have HF2 := hide (HF1.out.tr f2); have HLe := hide (lent8_any A m c w.heap.size bs w2 HL.out (by omega) (HR.out.fr0 HF2.out)); clear f2)
    | (go_at_call 9; refine HLe.out.mono ?_; rintro en w3 ⟨A3, c3, rfl, o3, f3⟩; rw [HL.out] at o3 ⊢; have q3 := o3.le; have HO3 := hide o3; have HF3 := hide (HF2.out.tr f3); have hrd : Rd w3 w3.heap.size A3 (by8 bs) := (by have h := o3.rd.tk m; rw [← by8_take, List.take_append_of_le_length (by rw [HL.out]; exact Nat.le_refl _), List.take_of_length_le (by rw [HL.out]; exact Nat.le_refl _)] at h; exact h); have HQ3 := hide q3; have HOp := hide (callsIn_wide.1 (bopen_in 6 (Nat.le_refl _) m c3 A3 bs w3.heap.size w3 HL.out (by omega) q3.2.2 (by omega) (Nat.le_refl _) hrd)); clear o3 f3 hrd q3))
  refine HOp.out.mono ?_
  rintro en w4 hq
  by_cases hyes : ∃ dims l, IsB bs dims l
  · obtain ⟨d, l, hi⟩ := hyes
    obtain ⟨gT, rfl, f4, ht⟩ := hq.yes hi
    obtain ⟨L, hD, hLl⟩ := openD_yes hi
    have HF4 := hide (HF3.out.tr f4)
    have HRo := hide (ropenD_any A m c bs w4 HL.out HC.out.1 HC.out.2 hb ((HR.out.fr0 HF4.out).more HF4.out.size))
    rw [hD] at HRo
    have HO4 := hide (HO3.out.fr0 f4)
    have HT4 := hide ht
    obtain ⟨n, hn'⟩ : ∃ x, x = l.length := ⟨_, rfl⟩
    have HN := hide hn'
    unfold GivesD at HRo
    dsimp only at HRo
    rw [hLl, ← hn'] at HRo
    clear hq hi f4 ht hD hLl hn' HOp
    go_wp2_with (fail)
    refine HRo.out.mono ?_
    rintro en w5 ⟨A5, c5, rfl, f5⟩
    have HF5 := hide (HF4.out.tr f5)
    have HLn := hide (blen_any w3.heap.size gT d l w5 (HT4.out.fr0 f5))
    rw [← HN.out] at HLn
    have HDm := hide (bdims_any w3.heap.size gT d l w5 (HT4.out.fr0 f5))
    have HKe := hide (kept8_any A3 A m c3 m c _ _ bs w5 HL.out HL.out HQ3.out.2.1 HQ3.out.2.2 HC.out.1 HC.out.2 (HO4.out.rd.fr0 f5) (HR.out.fr0 HF5.out))
    have bn : ((n : Int) == (n : Int)) = true := by simp
    have bd : ((d : Int) == (d : Int)) = true := by simp
    clear f5 HRo
    go_wp2_with (first
      | (go_at_call 5; refine HLn.out.mono ?_; rintro en w' ⟨rfl, rfl⟩)
      | (go_at_call 6; refine HDm.out.mono ?_; rintro en w' ⟨rfl, rfl⟩)
      | (go_at_call 12; refine HKe.out.mono ?_; rintro en w6 ⟨rfl, nq, hq⟩; have HF6 := hide (show Fr No w w6 by rw [hq]; exact HF5.out.drewN nq); clear hq))
    go_ret
    exact ⟨rfl, HF6.out⟩
  · have hno : ∀ dims l, ¬ IsB bs dims l := fun d l h => hyes ⟨d, l, h⟩
    obtain ⟨rfl, f4⟩ := hq.no hno
    have hD := openD_no hno
    have HF4 := hide (HF3.out.tr f4)
    have HRo := hide (ropenD_any A m c bs w4 HL.out HC.out.1 HC.out.2 hb ((HR.out.fr0 HF4.out).more HF4.out.size))
    rw [hD] at HRo
    have HO4 := hide (HO3.out.fr0 f4)
    unfold GivesD at HRo
    dsimp only [List.length_nil] at HRo
    clear hq hno hyes f4 hD HOp
    go_wp2_with (fail)
    refine HRo.out.mono ?_
    rintro en w5 ⟨A5, c5, rfl, f5⟩
    have HF5 := hide (HF4.out.tr f5)
    have HLn := hide (blen_nil w5)
    have HDm := hide (bdims_nil w5)
    have HKe := hide (kept8_any A3 A m c3 m c _ _ bs w5 HL.out HL.out HQ3.out.2.1 HQ3.out.2.2 HC.out.1 HC.out.2 (HO4.out.rd.fr0 f5) (HR.out.fr0 HF5.out))
    clear f5 HRo
    go_wp2_with (first
      | (go_at_call 5; refine HLn.out.mono ?_; rintro en w' ⟨rfl, rfl⟩)
      | (go_at_call 6; refine HDm.out.mono ?_; rintro en w' ⟨rfl, rfl⟩)
      | (go_at_call 12; refine HKe.out.mono ?_; rintro en w6 ⟨rfl, nq, hq⟩; have HF6 := hide (show Fr No w w6 by rw [hq]; exact HF5.out.drewN nq); clear hq))
    go_ret
    exact ⟨rfl, HF6.out⟩
end Go.Proofs.YtpopbkcbplmcaaaGreat
