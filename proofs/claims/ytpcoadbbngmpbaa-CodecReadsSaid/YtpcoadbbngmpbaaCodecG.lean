/- take[string], Text, End, unsigned. -/
import Derived.Test.YtpcoadbbngmpbaaCodecF
namespace Go.Proofs.Ytpcoadbbngmpbaa
open Go.RowKit

theorem RD.fr0 {w w' : World} {g : Nat} {bs : List UInt8} {a : Nat} {e : Int} (h : RD w g bs a e) (f : Fr No w w') : RD w' g bs a e := by
  obtain ⟨A, c, hh, h1, h2, h3, h4, ho⟩ := h
  exact ⟨A, c, f.blk hh (fun h => h), h1, h2, h3, h4, ho.fr0 f⟩

theorem text_cut {w : World} {B : Nat} {A : Option Addr} {bs : List UInt8} {c at_ b1 b2 : Nat} {most : Int} (r : Value) (hm1 : -9223372036854775808 ≤ most) (hm2 : most ≤ 9223372036854775807) (hr : Rd w B A (by8 bs)) (h1 : bs.length ≤ c) (h2 : c ≤ maxLen) (h3 : at_ ≤ bs.length) (c1 : w.cell? ⟨b1, 0, none⟩ = some r) (c2 : w.cell? ⟨b2, 0, none⟩ = some (.int .i64 most)) (nq : Nat) :
    Calls Try.prog 44 #[.slice (if c = at_ then A else A.map (·.add at_)) (bs.length - at_) (c - at_), .pointer (some ⟨b1, 0, none⟩), .pointer (some ⟨b2, 0, none⟩)] (w.drewN nq) fun e w' => e = .returned (textV (textR (bs.drop at_) most)) ∧ w' = w.drewN nq :=
  (text1_any r b1 b2 most _ _ _ B (bs.drop at_) (w.drewN nq) (by simp) (by omega) (by omega) hm1 hm2 (by rw [by8_drop]; exact Rd.cut (w := w) hr (by rw [by8_length]; exact h1)) c1 c2).mono fun _ _ ⟨a, b⟩ => ⟨a, b.symm⟩

section
variable (g : Nat) (bs : List UInt8) (at_ : Nat) (w : World) (b1 b2 : Nat) (most : Int) (hm1 : -9223372036854775808 ≤ most) (hm2 : most ≤ 9223372036854775807) (c1 : w.cell? ⟨b1, 0, none⟩ = some (.pointer (some ⟨g, 0, none⟩))) (c2 : w.cell? ⟨b2, 0, none⟩ = some (.int .i64 most))
include hm1 hm2 c1 c2
set_option maxRecDepth 100000 in
set_option maxHeartbeats 400000 in
theorem takeS_bad (h : RD w g bs at_ 0) (hd : textR (bs.drop at_) most = none) :
    Calls Try.prog 43 #[.pointer (some ⟨g, 0, none⟩), .func (.func 44) #[] #[.pointer (some ⟨b1, 0, none⟩), .pointer (some ⟨b2, 0, none⟩)]] w (RDRet (.string ⟨#[]⟩) w g bs at_ 20) := by
  obtain ⟨A, c, ⟨d0, d1, d2⟩, hf, h1, h2, h3, h4, hr⟩ := h.parts
  have HN := hide (text_cut (.pointer (some ⟨g, 0, none⟩)) hm1 hm2 hr h1 h2 h3 c1 c2)
  rw [hd] at HN
  simp only [textV] at HN
  have H := hide h
  clear h hr hd c1 c2
  go_enter Try.func43, Try.ntmps43
  go_wp2_with (fail)
  go_quiet ((go_at_call 44; exact Calls.quiet_of_same (HN.out _)))
  go_wp2
  all_goals
    go_ret
    exact ⟨rfl, (H.out.drewN _).set2 20, ((Fr.refl _ _).drewN _).put _ _⟩

set_option maxRecDepth 100000 in
set_option maxHeartbeats 400000 in
theorem takeS_ok (s : List UInt8) (k : Nat) (h : RD w g bs at_ 0) (hd : textR (bs.drop at_) most = some (s, k)) (hk1 : at_ + k ≤ bs.length) :
    Calls Try.prog 43 #[.pointer (some ⟨g, 0, none⟩), .func (.func 44) #[] #[.pointer (some ⟨b1, 0, none⟩), .pointer (some ⟨b2, 0, none⟩)]] w (RDRet (.string ⟨s.toArray⟩) w g bs (at_ + k) 0) := by
  obtain ⟨A, c, ⟨d0, d1, d2⟩, hf, h1, h2, h3, h4, hr⟩ := h.parts
  have HN := hide (text_cut (.pointer (some ⟨g, 0, none⟩)) hm1 hm2 hr h1 h2 h3 c1 c2)
  rw [hd] at HN
  simp only [textV] at HN
  have H := hide h
  clear h hr hd c1 c2
  go_enter Try.func43, Try.ntmps43
  go_wp2_with (fail)
  go_quiet ((go_at_call 44; exact Calls.quiet_of_same (HN.out _)))
  go_wp2
  all_goals
    go_ret
    exact ⟨rfl, (H.out.drewN _).set1 _ hk1, ((Fr.refl _ _).drewN _).put _ _⟩
end

set_option maxRecDepth 100000 in
set_option maxHeartbeats 400000 in
theorem takeS_off (g : Nat) (bs : List UInt8) (at_ : Nat) (e : Int) (w : World) (f : Value) (h : RD w g bs at_ e) (he : e ≠ 0) :
    Calls Try.prog 43 #[.pointer (some ⟨g, 0, none⟩), f] w (RDRet (.string ⟨#[]⟩) w g bs at_ e) := by
  obtain ⟨A, c, ⟨c0, c1, c2⟩, hf, h1, h2, h3, h4, hr⟩ := h.parts
  have hb : (e != 0) = true := by simpa using he
  have H := hide h
  clear h hr he
  go_enter Try.func43, Try.ntmps43
  go_wp2_with (fail)
  go_ret
  exact ⟨rfl, H.out, Fr.refl _ _⟩

set_option maxRecDepth 100000 in
set_option maxHeartbeats 400000 in
theorem takeS_nil (w : World) (f : Value) :
    Calls Try.prog 43 #[.pointer none, f] w (Ret (.string ⟨#[]⟩) w) := by
  go_enter Try.func43, Try.ntmps43
  go_wp2_with (fail)
  go_ret
  exact ⟨rfl, rfl⟩

def textS (bs : List UInt8) (a : Nat) (e most : Int) : List UInt8 × Nat × Int :=
  if e = 0 then (match textR (bs.drop a) most with | none => ([], a, 20) | some (s, k) => (s, a + k, 0)) else ([], a, e)

theorem textR_le {bs : List UInt8} {most : Int} {s : List UInt8} {k : Nat} (h : textR bs most = some (s, k)) : k ≤ bs.length := by
  cases hd : dec 0 0 bs with
  | none => rw [textR_none hd] at h; cases h
  | some x =>
    obtain ⟨u, j⟩ := x
    have hk := dec_le _ _ _ _ _ hd
    by_cases hb : most < 0 ∨ most < (u : Int) ∨ bs.length - j < u
    · rw [textR_no hd hb] at h; cases h
    · rw [textR_ok hd hb] at h
      injection h with h
      injection h with _ h
      omega

theorem takeS_all (g : Nat) (bs : List UInt8) (a : Nat) (e : Int) (w : World) (b1 b2 : Nat) (most : Int) (hm1 : -9223372036854775808 ≤ most) (hm2 : most ≤ 9223372036854775807) (c1 : w.cell? ⟨b1, 0, none⟩ = some (.pointer (some ⟨g, 0, none⟩))) (c2 : w.cell? ⟨b2, 0, none⟩ = some (.int .i64 most)) (h : RD w g bs a e) :
    Calls Try.prog 43 #[.pointer (some ⟨g, 0, none⟩), .func (.func 44) #[] #[.pointer (some ⟨b1, 0, none⟩), .pointer (some ⟨b2, 0, none⟩)]] w (RDRet (.string ⟨(textS bs a e most).1.toArray⟩) w g bs (textS bs a e most).2.1 (textS bs a e most).2.2) := by
  unfold textS
  by_cases he : e = 0
  · subst he
    rw [if_pos rfl]
    cases hd : textR (bs.drop a) most with
    | none => exact takeS_bad g bs a w b1 b2 most hm1 hm2 c1 c2 h hd
    | some x => exact takeS_ok g bs a w b1 b2 most hm1 hm2 c1 c2 x.1 x.2 h hd (by
        have h1 := textR_le (s := x.1) (k := x.2) hd
        obtain ⟨_, _, _, _, _, h3, _⟩ := h
        simp at h1
        omega)
  · rw [if_neg he]
    exact takeS_off g bs a e w _ h he

theorem box1 (w : World) (v1 v2 : Value) (t1 t2 : TypeId) : ((w.alloc (.cells #[v1] t1)).alloc (.cells #[v2] t2)).cell? ⟨w.heap.size, 0, none⟩ = some v1 :=
  cell_of_row _ w.heap.size 0 #[v1] t1 (0, 0) ((Below.heap_alloc (w.alloc (.cells #[v1] t1)) _ w.heap.size (by simp)).trans (heap_alloc_new w _))
theorem box2 (w : World) (v1 v2 : Value) (t1 t2 : TypeId) : ((w.alloc (.cells #[v1] t1)).alloc (.cells #[v2] t2)).cell? ⟨w.heap.size + 1, 0, none⟩ = some v2 := by
  have h := heap_alloc_new (w.alloc (.cells #[v1] t1)) (.cells #[v2] t2)
  have e : (w.alloc (.cells #[v1] t1)).heap.size = w.heap.size + 1 := by simp
  rw [e] at h
  exact cell_of_row _ (w.heap.size + 1) 0 #[v2] t2 (0, 0) h

set_option maxRecDepth 100000 in
set_option maxHeartbeats 400000 in
theorem text_any (g : Nat) (bs : List UInt8) (a : Nat) (e most : Int) (w : World) (h : RD w g bs a e) (hm1 : -9223372036854775808 ≤ most) (hm2 : most ≤ 9223372036854775807) :
    Calls Try.prog 24 #[.pointer (some ⟨g, 0, none⟩), .int .i64 most] w (RDRet (.string ⟨(textS bs a e most).1.toArray⟩) w g bs (textS bs a e most).2.1 (textS bs a e most).2.2) := by
  have H := hide (fun t1 t2 => takeS_all g bs a e _ w.heap.size (w.heap.size + 1) most hm1 hm2 (box1 w (.pointer (some ⟨g, 0, none⟩)) (.int .i64 most) t1 t2) (box2 w (.pointer (some ⟨g, 0, none⟩)) (.int .i64 most) t1 t2) (h.fr0 (((Fr.refl No w).alloc _).alloc _)))
  clear h
  generalize textS bs a e most = x at H
  go_enter Try.func24, Try.ntmps24
  go_wp2_with (go_at_call 43; refine (H.out _ _).mono ?_; rintro en w' ⟨rfl, hq⟩; have HQ := hide hq; clear hq)
  go_ret
  exact ⟨rfl, HQ.out.1, (((Fr.refl (Is g) w).alloc _).alloc _).ts HQ.out.2⟩

set_option maxRecDepth 100000 in
set_option maxHeartbeats 400000 in
theorem text_nil (most : Int) (w : World) :
    Calls Try.prog 24 #[.pointer none, .int .i64 most] w (fun en w' => en = .returned (.string ⟨#[]⟩) ∧ Fr No w w') := by
  go_enter Try.func24, Try.ntmps24
  go_wp2_with (go_at_call 43; refine (takeS_nil _ _).mono ?_; rintro en w' ⟨rfl, rfl⟩)
  go_ret
  exact ⟨rfl, ((Fr.refl No w).alloc _).alloc _⟩

def endE (bs : List UInt8) (a : Nat) (e : Int) : Int := if e = 0 ∧ a < bs.length then 20 else e

set_option maxRecDepth 100000 in
set_option maxHeartbeats 400000 in
theorem end_any (g : Nat) (bs : List UInt8) (a : Nat) (e : Int) (w : World) (h : RD w g bs a e) :
    Calls Try.prog 25 #[.pointer (some ⟨g, 0, none⟩)] w (RDRet (.int .i64 (endE bs a e)) w g bs a (endE bs a e)) := by
  obtain ⟨A, c, ⟨c0, c1, c2⟩, hf, h1, h2, h3, h4, hr⟩ := h.parts
  have H := hide h
  clear h hr
  by_cases he : e = 0
  · subst he
    by_cases hlt : a < bs.length
    · have HE := hide (show endE bs a 0 = 20 from if_pos ⟨rfl, hlt⟩)
      have hpos : 0 < bs.length - a := by omega
      go_enter Try.func25, Try.ntmps25
      go_wp2_with (first | (go_at_call 10; refine (left_any g bs a 0 _ H.out).mono ?_; rintro en w' ⟨rfl, nq, rfl⟩) | (go_at_call 12; refine (err_any g bs a 20 _ ((H.out.drewN nq).set2 20)).mono ?_; rintro en w' ⟨rfl, rfl⟩))
      go_ret
      refine ⟨by rw [HE.out]; rfl, ?_, ((Fr.refl _ _).drewN _).put _ _⟩
      rw [HE.out]
      exact (H.out.drewN _).set2 20
    · have HE := hide (show endE bs a 0 = 0 from if_neg (fun h => hlt h.2))
      have hpos : bs.length - a = 0 := by omega
      go_enter Try.func25, Try.ntmps25
      go_wp2_with (first | (go_at_call 10; refine (left_any g bs a 0 _ H.out).mono ?_; rintro en w' ⟨rfl, nq, rfl⟩) | (go_at_call 12; refine (err_any g bs a 0 _ (H.out.drewN nq)).mono ?_; rintro en w' ⟨rfl, rfl⟩))
      go_ret
      refine ⟨by rw [HE.out]; rfl, ?_, (Fr.refl _ _).drewN _⟩
      rw [HE.out]
      exact H.out.drewN _
  · have HE := hide (show endE bs a e = e from if_neg (fun h => he h.1))
    have hb : (e == 0) = false := by simpa using he
    go_enter Try.func25, Try.ntmps25
    go_wp2_with (go_at_call 12; refine (err_any g bs a e _ H.out).mono ?_; rintro en w' ⟨rfl, rfl⟩)
    go_ret
    refine ⟨by rw [HE.out]; rfl, ?_, Fr.refl _ _⟩
    rw [HE.out]
    exact H.out

set_option maxRecDepth 100000 in
set_option maxHeartbeats 400000 in
theorem end_nil (w : World) : Calls Try.prog 25 #[.pointer none] w (Ret (.int .i64 20) w) := by
  go_enter Try.func25, Try.ntmps25
  go_wp2_with (go_at_call 12; refine (err_nil _).mono ?_; rintro en w' ⟨rfl, rfl⟩)
  go_ret
  exact ⟨rfl, rfl⟩

/-- a bool, and nothing that was there has changed. -/
def RetB (b : Bool) (w : World) (en : Ending) (w' : World) : Prop := en = .returned (.bool b) ∧ Fr No w w'

set_option maxRecDepth 100000 in
set_option maxHeartbeats 400000 in
theorem unsigned_any (u : Nat) (B : Option Addr) (m d b2 : Nat) (ys : List UInt8) (w : World) (hu : u < 18446744073709551616) (hy : ys.length = m) (hm : m ≤ d) (hd : d ≤ maxLen) (hs : Rd w b2 B (by8 ys)) :
    Calls Try.prog 29 #[.int .u64 u, .slice B m d] w (RetB (decide (enc u = ys)) w) := by
  have H := hide (putU_any none 0 0 0 [] u w rfl (Nat.le_refl _) (Nat.zero_le _) (by omega) (Nat.zero_le _) (Rd.nil _ _ _) hu)
  have HS := hide hs
  clear hs
  go_enter Try.func29, Try.ntmps29
  go_wp2_with (first | (go_at_call 15; refine H.out.mono ?_; rintro en w1 ⟨v1, rfl, hown, hfr⟩; obtain ⟨A1, k1, rfl, hq1, hq2, _, hq3, _⟩ := hown.form; have HQ := hide hq3; have HF := hide hfr; clear hown hfr hq3) | (go_at_call 14; refine (kbytes_any A1 B _ k1 m d _ b2 ([] ++ enc u) ys w1 rfl hy hq1 hq2 hm hd HQ.out (HS.out.fr0 HF.out)).mono ?_; rintro en w2 ⟨rfl, nq, rfl⟩))
  go_ret
  exact ⟨by simp, HF.out.drewN _⟩
end Go.Proofs.Ytpcoadbbngmpbaa
