/- The statements' own kit at rows of int64: are they the same? lent with a mark behind; as they were? -/
import Derived.Test.YtkenjhalamdjfaaInts
namespace Go.Proofs.Ytkenjhalamdjfaa
set_option linter.unusedVariables false
set_option linter.unusedSimpArgs false
open Go.RowKit

set_option maxRecDepth 100000 in
set_option maxHeartbeats 800000 in
theorem sameI64_any (A B : Option Addr) (n c m d b1 b2 : Nat) (xs ys : List Int) (w : World) (hx : xs.length = n) (hy : ys.length = m) (hn : n ≤ c) (hc : c ≤ maxLen) (hm : m ≤ d) (hd : d ≤ maxLen) (hr : Rd w b1 A (iz .i64 xs)) (hs : Rd w b2 B (iz .i64 ys)) :
    Calls Try.prog 26 #[.slice A n c, .slice B m d] w (RetQ (.bool (decide (xs = ys))) w) := by
  unfold maxLen at hc hd
  have HX := hide hx
  have HY := hide hy
  have HR := hide hr
  have HS := hide hs
  clear hx hy hr hs
  by_cases hnm : n = m
  · subst hnm
    have hb : ((n : Int) != n) = false := by simp
    go_enter Try.func26, Try.ntmps26
    go_wp2
    go_loopw [5] (fun i wr => ∃ k nq : Nat, k ≤ n ∧ i = .int .i64 k ∧ wr = w.drewN nq ∧ Hid (xs.take k = ys.take k)) (fun i _ => n - (intOf i).toNat)
    case atStart => exact ⟨0, 0, by omega, rfl, rfl, hide rfl⟩
    case round =>
      obtain ⟨k, nq, hk, rfl, rfl, HT⟩ := hrel
      by_cases hlt : k < n
      · have h1 : k < xs.length := by rw [HX.out]; exact hlt
        have h2 : k < ys.length := by rw [HY.out]; exact hlt
        obtain ⟨ad, rfl, _, hcell⟩ := HR.out.intAt h1
        obtain ⟨bd, rfl, _, hcell2⟩ := HS.out.intAt h2
        have HE := hide (fun he => take_succ_int h1 h2 HT.out he)
        have HN := hide (show xs.getD k 0 ≠ ys.getD k 0 → xs ≠ ys from fun h e => h (by rw [e]))
        clear h1 h2
        generalize xs.getD k 0 = x at hcell HE HN
        generalize ys.getD k 0 = y at hcell2 HE HN
        by_cases he : x = y
        · subst he
          have HE' := hide (HE.out rfl)
          clear HE
          have hb2 : (x != x) = false := by simp
          go_wp2
          go_quiet (fail)
          go_wp2
          go_round
          case rel => exact ⟨k + 1, _, by omega, by go_num, rfl, HE'⟩
          case measure => simp [intOf]; omega
        · have hb2 : (x != y) = true := by simpa using he
          have HF := hide (HN.out he)
          clear HN HE he
          go_wp2
          go_quiet (fail)
          go_wp2
          go_ret
          exact ⟨by simp [HF.out], _, World.drewN_drewN _ _ _⟩
      · have HF := hide (show xs = ys by
          have h := HT.out
          rwa [List.take_of_length_le (by rw [HX.out]; omega), List.take_of_length_le (by rw [HY.out]; omega)] at h)
        go_wp2
        go_ret
        exact ⟨by simp [HF.out], _, rfl⟩
  · have hb : ((n : Int) != m) = true := by simp; omega
    have HF := hide (show xs ≠ ys from fun e => hnm (by rw [← HX.out, ← HY.out, e]))
    go_enter Try.func26, Try.ntmps26
    go_wp2
    go_ret
    exact ⟨by simp [HF.out], 0, rfl⟩

theorem Try.infoKI64 : (Try.prog.info? 2).map (fun i => (i.zero, i.size, i.bytes)) = some (some (.int .i64 0), 1, 8) := by kernel_rfl
def GivesLentI64 (w : World) (xs : List Int) (en : Ending) (w' : World) : Prop :=
  ∃ A c, en = .returned (.slice A xs.length c) ∧ Own w' w.heap.size 2 1 (.slice A (xs.length + 1) c) (xs.length + 1) (iz .i64 (xs ++ [-7171])) ∧ Fr No w w'

set_option maxRecDepth 100000 in
set_option maxHeartbeats 800000 in
theorem lentI64_any (A : Option Addr) (n c B : Nat) (xs : List Int) (w : World) (hl : xs.length = n) (hb : (n + 1) * 8 ≤ 140737488355328) (hr : Rd w B A (iz .i64 xs)) :
    Calls Try.prog 9 #[.slice A n c] w (GivesLentI64 w xs) := by
  obtain ⟨i0, hi, hz, hsz, hby⟩ := info_parts Try.infoKI64
  have HS := hide (Src.ofRd (P := Try.prog) (size := 1) w Try.underlying33 A n c (iz .i64 xs) (by rw [iz_len, hl]; omega) (by omega) hr (iz_one _ _))
  have HL := hide hl
  clear hr hl
  have b1 : (0 + n) * 8 ≤ 140737488355328 := by omega
  have b2 : 0 + n ≤ maxLen := by unfold maxLen; omega
  have c1 : (0 + n + 1) * 8 ≤ 140737488355328 := by omega
  have c2 : 0 + n + 1 ≤ maxLen := by unfold maxLen; omega
  have HO0 := hide (Own.nil w w.heap.size 2 1)
  go_enter Try.func9, Try.ntmps9
  go_wp2_with (first
    | (at_builtin; refine wpList_append_gen _ rfl (.tmp 4) (.tmp 5) 33 33 rfl w.heap.size 2 i0 (.int .i64 0) 1 8 Try.underlying33 hi hz hsz hby rfl (.slice none 0 0) 0 [] rfl HO0.out _ n (iz .i64 xs) rfl HS.out b1 b2 (Nat.le_refl _) ?_; intro v1 w1 hown hfr hat; have HO1 := hide hown; have HF1 : Hid (Fr No w w1) := hide ((Fr.refl No w).own hfr (fun g h => by cases h)); have hz1 := hfr.size; clear hown hfr hat)
    | (at_builtin; refine wpList_append_gen _ rfl (.tmp 7) (.tmp 8) 33 33 rfl w.heap.size 2 i0 (.int .i64 0) 1 8 Try.underlying33 hi hz hsz hby rfl v1 (0 + n) _ rfl (HO1.out.fr0 ((Fr.refl No w1).alloc (.cells #[.int .i64 (-7171)] 2))) _ 1 [.int .i64 (-7171)] rfl (Src.one (P := Try.prog) w1 (e := 2) Try.underlying33 (.int .i64 (-7171)) rfl) c1 c2 (by simp; omega) ?_; intro v2 w2 hown hfr hat; obtain ⟨A2, k2, rfl, hc1, hc2, _⟩ := hown.form; unfold maxLen at hc2; have HO2 := hide hown; have HF2 : Hid (Fr No w w2) := hide ((HF1.out.alloc _).own hfr (fun g hg => .inl (HO1.out.lt g hg).1)); clear hown hfr hat))
  go_ret
  refine ⟨A2, k2, ?_, ?_, HF2.out⟩
  · rw [HL.out]; first | rfl | simp
  · have h := HO2.out
    rw [HL.out, iz_append]
    simpa [iz] using h

set_option maxRecDepth 100000 in
set_option maxHeartbeats 800000 in
theorem keptI64_any (A B : Option Addr) (n c m d b1 b2 : Nat) (xs : List Int) (w : World) (hx : xs.length = n) (hm : xs.length = m) (hn : n + 1 ≤ c) (hc : c ≤ maxLen) (hmd : m ≤ d) (hd : d ≤ maxLen) (hr : Rd w b1 A (iz .i64 (xs ++ [-7171]))) (hs : Rd w b2 B (iz .i64 xs)) :
    Calls Try.prog 16 #[.slice A n c, .slice B m d] w (RetQ (.bool true) w) := by
  have hr1 : Rd w b1 A (iz .i64 xs) := by
    have h := hr.tk xs.length
    rw [← iz_take, List.take_left] at h
    exact h
  have HK := hide (sameI64_any A B n c m d b1 b2 xs xs w hx hm (by omega) hc hmd hd hr1 hs)
  rw [decide_eq_true rfl] at HK
  obtain ⟨ad, rfl, _, hcell⟩ := hr.intAt (j := n) (by simp; omega)
  have e1 : (xs ++ [-7171]).getD n 0 = -7171 := by rw [← hx]; simp
  rw [e1] at hcell
  unfold maxLen at hc
  clear hr hs hr1 hx hm e1
  go_enter Try.func16, Try.ntmps16
  go_wp2_with (go_at_call 26; refine HK.out.mono ?_; rintro en w2 ⟨rfl, nq, rfl⟩)
  go_ret
  exact ⟨rfl, _, rfl⟩

end Go.Proofs.Ytkenjhalamdjfaa
