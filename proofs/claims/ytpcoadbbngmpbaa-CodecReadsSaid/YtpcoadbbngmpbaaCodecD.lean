/- The reader's calls: NewReader, Left, Err, Uint, Int. -/
import Derived.Test.YtpcoadbbngmpbaaCodecC
import Derived.Test.YtpcoadbbngmpbaaCodecLaw
namespace Go.Proofs.Ytpcoadbbngmpbaa
open Go.RowKit

def uintR (bs : List UInt8) (a : Nat) (e : Int) : Nat × Nat × Int :=
  if e = 0 then (match dec 0 0 (bs.drop a) with | none => (0, a, 20) | some (u, k) => (u, a + k, 0)) else (0, a, e)

theorem uintR_lt (bs : List UInt8) (a : Nat) (e : Int) : (uintR bs a e).1 < 18446744073709551616 := by
  unfold uintR
  split
  · cases hd : dec 0 0 (bs.drop a) with
    | none => simp
    | some x => exact dec_lt _ 0 0 x.1 x.2 (by decide) hd
  · simp
/-- quiet: a value; nothing has changed but the draws. -/
def RetQ (v : Value) (w : World) (en : Ending) (w' : World) : Prop := en = .returned v ∧ ∃ n, w' = w.drewN n

theorem takeU_all (g : Nat) (bs : List UInt8) (a : Nat) (e : Int) (w : World) (h : RD w g bs a e) :
    Calls Try.prog 36 #[.pointer (some ⟨g, 0, none⟩), .func (.func 37) #[.pointer (some ⟨g, 0, none⟩)] #[]] w (RDRet (.int .u64 (uintR bs a e).1) w g bs (uintR bs a e).2.1 (uintR bs a e).2.2) := by
  unfold uintR
  by_cases he : e = 0
  · subst he
    rw [if_pos rfl]
    cases hd : dec 0 0 (bs.drop a) with
    | none => exact takeU_bad g bs a w h hd
    | some x => exact takeU_ok g bs a x.1 x.2 w h hd
  · rw [if_neg he]
    exact takeU_off g bs a e w _ h he

set_option maxRecDepth 100000 in
set_option maxHeartbeats 400000 in
theorem uint_any (g : Nat) (bs : List UInt8) (a : Nat) (e : Int) (w : World) (h : RD w g bs a e) :
    Calls Try.prog 9 #[.pointer (some ⟨g, 0, none⟩)] w (RDRet (.int .u64 (uintR bs a e).1) w g bs (uintR bs a e).2.1 (uintR bs a e).2.2) := by
  have H := hide (takeU_all g bs a e w h)
  clear h
  generalize uintR bs a e = x at H
  go_enter Try.func9, Try.ntmps9
  go_wp2_with (go_at_call 36; refine H.out.mono ?_; rintro en w' ⟨rfl, hq⟩; have HQ := hide hq; clear hq)
  go_ret
  exact ⟨rfl, HQ.out⟩

set_option maxRecDepth 100000 in
set_option maxHeartbeats 400000 in
theorem uint_nil (w : World) :
    Calls Try.prog 9 #[.pointer none] w (Ret (.int .u64 0) w) := by
  go_enter Try.func9, Try.ntmps9
  go_wp2_with (go_at_call 36; refine (takeU_nil _ _).mono ?_; rintro en w' ⟨rfl, rfl⟩)
  go_ret
  exact ⟨rfl, rfl⟩

set_option maxRecDepth 100000 in
set_option maxHeartbeats 400000 in
theorem int_any (g : Nat) (bs : List UInt8) (a : Nat) (e : Int) (w : World) (h : RD w g bs a e) :
    Calls Try.prog 11 #[.pointer (some ⟨g, 0, none⟩)] w (RDRet (.int .i64 (unzz (uintR bs a e).1)) w g bs (uintR bs a e).2.1 (uintR bs a e).2.2) := by
  have H := hide (takeU_all g bs a e w h)
  have HX := hide (xor_zz (uintR_lt bs a e))
  clear h
  generalize uintR bs a e = x at H HX
  go_enter Try.func11, Try.ntmps11
  go_wp2_with (go_at_call 36; refine H.out.mono ?_; rintro en w' ⟨rfl, hq⟩; have HQ := hide hq; clear hq)
  go_ret
  refine ⟨?_, HQ.out⟩
  rw [← HX.out]
  rfl

set_option maxRecDepth 100000 in
set_option maxHeartbeats 400000 in
theorem int_nil (w : World) :
    Calls Try.prog 11 #[.pointer none] w (Ret (.int .i64 0) w) := by
  have hx := xor_zz (u := 0) (by omega)
  have h00 : wrap64 0 = 0 := by unfold wrap64; omega
  simp [unzz, h00] at hx
  go_enter Try.func11, Try.ntmps11
  go_wp2_with (go_at_call 36; refine (takeU_nil _ _).mono ?_; rintro en w' ⟨rfl, rfl⟩)
  go_ret
  exact ⟨by simp [hx], rfl⟩

set_option maxRecDepth 100000 in
set_option maxHeartbeats 400000 in
theorem left_any (g : Nat) (bs : List UInt8) (a : Nat) (e : Int) (w : World) (h : RD w g bs a e) :
    Calls Try.prog 10 #[.pointer (some ⟨g, 0, none⟩)] w (RetQ (.int .i64 ((bs.length - a : Nat) : Int)) w) := by
  obtain ⟨A, c, ⟨c0, c1, c2⟩, hf, h1, h2, h3, h4, hr⟩ := h.parts
  have hx : ((bs.length - a : Nat) : Int) = (bs.length : Int) - a := by omega
  have HX := hide hx
  clear h hr hx
  generalize bs.length = n at *
  go_enter Try.func10, Try.ntmps10
  go_wp2
  go_quiet (fail)
  go_wp2
  go_ret
  exact ⟨by rw [HX.out]; rfl, _, rfl⟩

set_option maxRecDepth 100000 in
set_option maxHeartbeats 400000 in
theorem left_nil (w : World) : Calls Try.prog 10 #[.pointer none] w (Ret (.int .i64 0) w) := by
  go_enter Try.func10, Try.ntmps10
  go_wp2
  go_ret
  exact ⟨rfl, rfl⟩

set_option maxRecDepth 100000 in
set_option maxHeartbeats 400000 in
theorem err_any (g : Nat) (bs : List UInt8) (a : Nat) (e : Int) (w : World) (h : RD w g bs a e) :
    Calls Try.prog 12 #[.pointer (some ⟨g, 0, none⟩)] w (Ret (.int .i64 e) w) := by
  obtain ⟨A, c, ⟨c0, c1, c2⟩, hf, h1, h2, h3, h4, hr⟩ := h.parts
  clear h hr
  go_enter Try.func12, Try.ntmps12
  go_wp2
  go_ret
  exact ⟨rfl, rfl⟩

set_option maxRecDepth 100000 in
set_option maxHeartbeats 400000 in
theorem err_nil (w : World) : Calls Try.prog 12 #[.pointer none] w (Ret (.int .i64 20) w) := by
  go_enter Try.func12, Try.ntmps12
  go_wp2
  go_ret
  exact ⟨rfl, rfl⟩

/-- a new reader. -/
def GivesRD (w : World) (bs : List UInt8) (en : Ending) (w' : World) : Prop := ∃ g, en = .returned (.pointer (some ⟨g, 0, none⟩)) ∧ w.heap.size ≤ g ∧ RD w' g bs 0 0 ∧ Fr No w w'

set_option maxRecDepth 100000 in
set_option maxHeartbeats 400000 in
theorem newReader_any (A : Option Addr) (n c B : Nat) (bs : List UInt8) (w : World) (hl : bs.length = n) (hn : n ≤ c) (hc : c ≤ maxLen) (hb : n ≤ 140737488355328) (hB : B ≤ w.heap.size) (hr : Rd w B A (by8 bs)) :
    Calls Try.prog 8 #[.slice A n c] w (GivesRD w bs) := by
  have H := hide (clone_any A n c B bs w hl hn hc hb hB hr)
  have HL := hide hl
  clear hr hl
  go_enter Try.func8, Try.ntmps8
  go_wp2_with (go_at_call 35; refine H.out.mono ?_; rintro en w' ⟨v, rfl, hown, hfr⟩; obtain ⟨A', c', rfl, hq1, hq2, hq3, hq4⟩ := hown.form; have HO := hide hown; have HF := hide hfr; clear hown hfr hq3 hq4)
  go_ret
  refine ⟨w'.heap.size, rfl, HF.out.size, ⟨A', c', heap_alloc_new w' _, hq1, hq2, Nat.zero_le _, by rw [HL.out]; exact hb, ?_⟩, HF.out.alloc _⟩
  exact (HO.out.lower (Nat.zero_le _)).fr0 ((Fr.refl _ _).alloc _)
end Go.Proofs.Ytpcoadbbngmpbaa
