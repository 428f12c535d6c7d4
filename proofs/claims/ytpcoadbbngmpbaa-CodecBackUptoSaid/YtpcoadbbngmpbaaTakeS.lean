/- Text: its walk. -/
import Derived.Test.YtpcoadbbngmpbaaNumCut
import Derived.Test.YtpcoadbbngmpbaaTextP
import Derived.Deep.RegionWith
namespace Go.Proofs.Ytpcoadbbngmpbaa
set_option linter.unusedVariables false
set_option linter.unusedSimpArgs false
open Go.RowKit

set_option maxRecDepth 100000 in
set_option maxHeartbeats 800000 in
theorem text1_ok (r : Value) (b1 b2 m : Nat) (A : Option Addr) (n c B : Nat) (bs : List UInt8) (u k : Nat) (W : World) (hl : bs.length = n) (hn : n ≤ c) (hc : c ≤ 9223372036854775807) (hm2 : (m : Int) ≤ 9223372036854775807) (hr : Rd W B A (by8 bs)) (c1 : W.cell? ⟨b1, 0, none⟩ = some r) (c2 : W.cell? ⟨b2, 0, none⟩ = some (.int .i64 m)) (hd : dec 0 0 bs = some (u, k))
    (HN0 : Calls Try.prog 37 #[r, .slice A n c] W (Ret (.tuple #[.int .u64 u, .int .i64 k]) W)) (hkn : k ≤ n) (hum : ¬ m < u) (hul : ¬ n - k < u) (hu : u < 18446744073709551616) :
    Calls Try.prog 44 #[.slice A n c, .pointer (some ⟨b1, 0, none⟩), .pointer (some ⟨b2, 0, none⟩)] W (Ret (textV (textR bs m)) W) := by
  have HN := hide HN0
  have HT := hide (textR_ok (most := m) hd (by rw [hl]; omega))
  have hcv := conv_rd W (B := B) (if c = k then A else A.map (·.add k)) u (c - k) ((bs.drop k).take u) (by simp; omega) (by
    rw [by8_take, by8_drop]
    exact (hr.cut (by rw [by8_length, hl]; exact hn)).tk u)
  generalize (bs.drop k).take u = s at HT hcv
  have hku : k + u ≤ n := by omega
  have hu2 : u ≤ m := by omega
  have HC := hide hcv
  clear hr hl hd hul HN0 hcv hum hu
  go_enter Try.func44, Try.ntmps44
  go_wp2_with (go_at_call 37; refine HN.out.mono ?_; rintro en w' ⟨rfl, rfl⟩)
  · rename_i h
    have hcv := HC.out
    rw [if_pos h, h, Nat.sub_self] at hcv
    rw [hcv]
    clear hcv HC
    go_wp2
    go_ret2
    exact ⟨by rw [HT.out]; simp [textV], rfl⟩
  · rename_i h
    have hcv := HC.out
    rw [if_neg h] at hcv
    rw [hcv]
    clear hcv HC
    go_wp2
    go_ret2
    exact ⟨by rw [HT.out]; simp [textV], rfl⟩

set_option maxRecDepth 100000 in
set_option maxHeartbeats 800000 in
theorem text1_any (r : Value) (b1 b2 : Nat) (most : Int) (A : Option Addr) (n c B : Nat) (bs : List UInt8) (W : World) (hl : bs.length = n) (hn : n ≤ c) (hc : c ≤ maxLen) (hm1 : -9223372036854775808 ≤ most) (hm2 : most ≤ 9223372036854775807) (hr : Rd W B A (by8 bs)) (c1 : W.cell? ⟨b1, 0, none⟩ = some r) (c2 : W.cell? ⟨b2, 0, none⟩ = some (.int .i64 most)) :
    Calls Try.prog 44 #[.slice A n c, .pointer (some ⟨b1, 0, none⟩), .pointer (some ⟨b2, 0, none⟩)] W (Ret (textV (textR bs most)) W) := by
  have HN := hide (number_any r A n c B bs W hl hn hc hr)
  unfold maxLen at hc
  cases hd : dec 0 0 bs with
  | none =>
    have HT := hide (textR_none (most := most) hd)
    rw [hd] at HN
    simp only [numV] at HN
    clear hr hl hd
    go_enter Try.func44, Try.ntmps44
    go_wp2_with (go_at_call 37; refine HN.out.mono ?_; rintro en w' ⟨rfl, rfl⟩)
    go_ret2
    exact ⟨by rw [HT.out]; rfl, rfl⟩
  | some x =>
    obtain ⟨u, k⟩ := x
    rw [hd] at HN
    simp only [numV] at HN
    have hk := dec_le _ _ _ _ _ hd
    have hu := dec_lt _ 0 0 u k (by decide) hd
    rw [hl] at hk
    obtain ⟨hk0, hkn⟩ := hk
    have hkn : k ≤ n := by omega
    have hku0 := hkn
    by_cases hneg : most < 0
    · have HT := hide (textR_no (most := most) hd (.inl hneg))
      clear hr hl hd
      go_enter Try.func44, Try.ntmps44
      go_wp2_with (go_at_call 37; refine HN.out.mono ?_; rintro en w' ⟨rfl, rfl⟩)
      go_ret2
      exact ⟨by rw [HT.out]; rfl, rfl⟩
    · obtain ⟨m, rfl⟩ := Int.eq_ofNat_of_zero_le (a := most) (by omega)
      clear hm1 hneg
      by_cases hum : m < u
      · have HT := hide (textR_no (most := m) hd (.inr (.inl (by omega))))
        clear hr hl hd
        go_enter Try.func44, Try.ntmps44
        go_wp2_with (go_at_call 37; refine HN.out.mono ?_; rintro en w' ⟨rfl, rfl⟩)
        go_ret2
        exact ⟨by rw [HT.out]; rfl, rfl⟩
      · by_cases hul : n - k < u
        · have HT := hide (textR_no (most := m) hd (.inr (.inr (by rw [hl]; exact hul))))
          clear hr hl hd
          go_enter Try.func44, Try.ntmps44
          go_wp2_with (go_at_call 37; refine HN.out.mono ?_; rintro en w' ⟨rfl, rfl⟩)
          go_ret2
          exact ⟨by rw [HT.out]; rfl, rfl⟩
        · exact text1_ok r b1 b2 m A n c B bs u k W hl hn hc hm2 hr c1 c2 hd HN.out hku0 hum hul hu

theorem text_cut {w : World} {B : Nat} {A : Option Addr} {bs : List UInt8} {c at_ b1 b2 : Nat} {most : Int} (r : Value) (hm1 : -9223372036854775808 ≤ most) (hm2 : most ≤ 9223372036854775807) (hr : Rd w B A (by8 bs)) (h1 : bs.length ≤ c) (h2 : c ≤ maxLen) (h3 : at_ ≤ bs.length) (c1 : w.cell? ⟨b1, 0, none⟩ = some r) (c2 : w.cell? ⟨b2, 0, none⟩ = some (.int .i64 most)) (nq : Nat) :
    Calls Try.prog 44 #[.slice (if c = at_ then A else A.map (·.add at_)) (bs.length - at_) (c - at_), .pointer (some ⟨b1, 0, none⟩), .pointer (some ⟨b2, 0, none⟩)] (w.drewN nq) fun e w' => e = .returned (textV (textR (bs.drop at_) most)) ∧ w' = w.drewN nq :=
  (text1_any r b1 b2 most _ _ _ B (bs.drop at_) (w.drewN nq) (by simp) (by omega) (by omega) hm1 hm2 (by rw [by8_drop]; exact Rd.cut (w := w) hr (by rw [by8_length]; exact h1)) c1 c2).mono fun _ _ ⟨a, b⟩ => ⟨a, b.symm⟩

section
variable (g : Nat) (bs : List UInt8) (at_ : Nat) (w : World) (b1 b2 : Nat) (most : Int) (hm1 : -9223372036854775808 ≤ most) (hm2 : most ≤ 9223372036854775807) (c1 : w.cell? ⟨b1, 0, none⟩ = some (.pointer (some ⟨g, 0, none⟩))) (c2 : w.cell? ⟨b2, 0, none⟩ = some (.int .i64 most))
include hm1 hm2 c1 c2
set_option maxRecDepth 100000 in
set_option maxHeartbeats 400000 in
theorem takeS_bad (h : RD w g bs at_ 0) (hd : textR (bs.drop at_) most = none) :
    Calls Try.prog 43 #[.pointer (some ⟨g, 0, none⟩), .func (.func 44) #[] #[.pointer (some ⟨b1, 0, none⟩), .pointer (some ⟨b2, 0, none⟩)]] w (RDRet (.string ⟨#[]⟩) w g bs at_ 20) := by
  obtain ⟨A, c, ⟨d0, d1, d2⟩, hf, h1, h2, h3, h4, hr⟩ := h.parts
  have HN := hide (text_cut (.pointer (some ⟨g, 0, none⟩)) hm1 hm2 hr h1 h2 h3 c1 c2)
  rw [hd] at HN
  simp only [textV] at HN
  have H := hide h
  clear h hr hd c1 c2
  go_enter Try.func43, Try.ntmps43
  go_wp2_with (fail)
  go_quiet ((go_at_call 44; exact Calls.quiet_of_same (HN.out _)))
  go_wp2
  all_goals
    go_ret
    exact ⟨rfl, (H.out.drewN _).set2 20, ((Fr.refl _ _).drewN _).put _ _⟩

set_option maxRecDepth 100000 in
set_option maxHeartbeats 400000 in
theorem takeS_ok (s : List UInt8) (k : Nat) (h : RD w g bs at_ 0) (hd : textR (bs.drop at_) most = some (s, k)) (hk1 : at_ + k ≤ bs.length) :
    Calls Try.prog 43 #[.pointer (some ⟨g, 0, none⟩), .func (.func 44) #[] #[.pointer (some ⟨b1, 0, none⟩), .pointer (some ⟨b2, 0, none⟩)]] w (RDRet (.string ⟨s.toArray⟩) w g bs (at_ + k) 0) := by
  obtain ⟨A, c, ⟨d0, d1, d2⟩, hf, h1, h2, h3, h4, hr⟩ := h.parts
  have HN := hide (text_cut (.pointer (some ⟨g, 0, none⟩)) hm1 hm2 hr h1 h2 h3 c1 c2)
  rw [hd] at HN
  simp only [textV] at HN
  have H := hide h
  clear h hr hd c1 c2
  go_enter Try.func43, Try.ntmps43
  go_wp2_with (fail)
  go_quiet ((go_at_call 44; exact Calls.quiet_of_same (HN.out _)))
  go_wp2
  all_goals
    go_ret
    exact ⟨rfl, (H.out.drewN _).set1 _ hk1, ((Fr.refl _ _).drewN _).put _ _⟩
end

set_option maxRecDepth 100000 in
set_option maxHeartbeats 400000 in
theorem takeS_off (g : Nat) (bs : List UInt8) (at_ : Nat) (e : Int) (w : World) (f : Value) (h : RD w g bs at_ e) (he : e ≠ 0) :
    Calls Try.prog 43 #[.pointer (some ⟨g, 0, none⟩), f] w (RDRet (.string ⟨#[]⟩) w g bs at_ e) := by
  obtain ⟨A, c, ⟨c0, c1, c2⟩, hf, h1, h2, h3, h4, hr⟩ := h.parts
  have hb : (e != 0) = true := by simpa using he
  have H := hide h
  clear h hr he
  go_enter Try.func43, Try.ntmps43
  go_wp2_with (fail)
  go_ret
  exact ⟨rfl, H.out, Fr.refl _ _⟩

set_option maxRecDepth 100000 in
set_option maxHeartbeats 400000 in
theorem takeS_nil (w : World) (f : Value) :
    Calls Try.prog 43 #[.pointer none, f] w (Ret (.string ⟨#[]⟩) w) := by
  go_enter Try.func43, Try.ntmps43
  go_wp2_with (fail)
  go_ret
  exact ⟨rfl, rfl⟩

theorem takeS_all (g : Nat) (bs : List UInt8) (a : Nat) (e : Int) (w : World) (b1 b2 : Nat) (most : Int) (hm1 : -9223372036854775808 ≤ most) (hm2 : most ≤ 9223372036854775807) (c1 : w.cell? ⟨b1, 0, none⟩ = some (.pointer (some ⟨g, 0, none⟩))) (c2 : w.cell? ⟨b2, 0, none⟩ = some (.int .i64 most)) (h : RD w g bs a e) :
    Calls Try.prog 43 #[.pointer (some ⟨g, 0, none⟩), .func (.func 44) #[] #[.pointer (some ⟨b1, 0, none⟩), .pointer (some ⟨b2, 0, none⟩)]] w (RDRet (.string ⟨(textS bs a e most).1.toArray⟩) w g bs (textS bs a e most).2.1 (textS bs a e most).2.2) := by
  unfold textS
  by_cases he : e = 0
  · subst he
    rw [if_pos rfl]
    cases hd : textR (bs.drop a) most with
    | none => exact takeS_bad g bs a w b1 b2 most hm1 hm2 c1 c2 h hd
    | some x => exact takeS_ok g bs a w b1 b2 most hm1 hm2 c1 c2 x.1 x.2 h hd (by
        have h1 := textR_le (s := x.1) (k := x.2) hd
        obtain ⟨_, _, _, _, _, h3, _⟩ := h
        simp at h1
        omega)
  · rw [if_neg he]
    exact takeS_off g bs a e w _ h he

set_option maxRecDepth 100000 in
set_option maxHeartbeats 400000 in
theorem text_any (g : Nat) (bs : List UInt8) (a : Nat) (e most : Int) (w : World) (h : RD w g bs a e) (hm1 : -9223372036854775808 ≤ most) (hm2 : most ≤ 9223372036854775807) :
    Calls Try.prog 24 #[.pointer (some ⟨g, 0, none⟩), .int .i64 most] w (RDRet (.string ⟨(textS bs a e most).1.toArray⟩) w g bs (textS bs a e most).2.1 (textS bs a e most).2.2) := by
  have H := hide (fun t1 t2 => takeS_all g bs a e _ w.heap.size (w.heap.size + 1) most hm1 hm2 (box1 w (.pointer (some ⟨g, 0, none⟩)) (.int .i64 most) t1 t2) (box2 w (.pointer (some ⟨g, 0, none⟩)) (.int .i64 most) t1 t2) (h.fr0 (((Fr.refl No w).alloc _).alloc _)))
  clear h
  generalize textS bs a e most = x at H
  go_enter Try.func24, Try.ntmps24
  go_wp2_with (go_at_call 43; refine (H.out _ _).mono ?_; rintro en w' ⟨rfl, hq⟩; have HQ := hide hq; clear hq)
  go_ret
  exact ⟨rfl, HQ.out.1, (((Fr.refl (Is g) w).alloc _).alloc _).ts HQ.out.2⟩

set_option maxRecDepth 100000 in
set_option maxHeartbeats 400000 in
theorem text_nil (most : Int) (w : World) :
    Calls Try.prog 24 #[.pointer none, .int .i64 most] w (fun en w' => en = .returned (.string ⟨#[]⟩) ∧ Fr No w w') := by
  go_enter Try.func24, Try.ntmps24
  go_wp2_with (go_at_call 43; refine (takeS_nil _ _).mono ?_; rintro en w' ⟨rfl, rfl⟩)
  go_ret
  exact ⟨rfl, ((Fr.refl No w).alloc _).alloc _⟩

end Go.Proofs.Ytpcoadbbngmpbaa
