/- Fail. -/
import Derived.Test.YthbgcmffpnmbeaaVfB
namespace Go.Proofs.Ythbgcmffpnmbeaa
set_option linter.unusedVariables false
set_option linter.unusedSimpArgs false
open Go.RowKit Go.Maps

theorem append_any (w : World) (Z : Nat → Prop) (d N : Nat) (S : Di) (p : Ph) (t : Tx) (B : Option Addr) (n c B0 : Nat) (bs : List UInt8) (h : DirP w Z d S N p) (hN : N < 1099511627000) (ht : t.length ≤ maxLen)
    (hbl : bs.length = n) (hbn : n ≤ c) (hbc : c ≤ maxLen) (hr : Rd w B0 B (by8 bs)) (hzb : ∀ ad, B = some ad → by8 bs = [] ∨ ¬ Z ad.block) (hpt : S.part ≤ 9223372036854775807) :
    Calls Try.prog 37 #[.pointer (some ⟨d, 0, none⟩), sv t, .slice B n c] w (fun en w' => en = .returned (.int .i64 (appS S t bs).1) ∧ Step w w' Z d (appS S t bs).2 (N + 3)) := by
  cases hfl : (cal S [t]).2.1 with
  | false => exact append_no w Z d N S p t B n c B0 bs h hN ht hbl hbn hbc hr hzb hpt hfl
  | true => exact append_yes w Z d N S p t B n c B0 bs h hN ht hbl hbn hbc hr hzb hpt hfl
def faiS (S : Di) (n e part : Int) : Di := if 1 ≤ n ∧ e ≠ 0 ∧ n < 1099511627776 then { S with at_ := (S.calls : Int) + n, e := e, part := part } else { S with at_ := 0, e := 0, part := 0 }
section
variable {w : World} {Z : Nat → Prop} {d N : Nat} {S : Di} {p : Ph}
theorem DirP.fail (h : DirP w Z d S N p) (a e q : Int) :
    DirP (((w.setCell ⟨d, 5, none⟩ (.int .i64 a)).setCell ⟨d, 6, none⟩ (.int .i64 e)).setCell ⟨d, 7, none⟩ (.int .i64 q)) Z d { S with at_ := a, e := e, part := q } N p ∧
      Fr (Is d) w (((w.setCell ⟨d, 5, none⟩ (.int .i64 a)).setCell ⟨d, 6, none⟩ (.int .i64 e)).setCell ⟨d, 7, none⟩ (.int .i64 q)) := by
  obtain ⟨h1, f1⟩ := h.num (S' := { S with at_ := a }) (i := 5) (u := .int .i64 a) (by simp [dirC]) rfl rfl rfl rfl h.calls
  obtain ⟨h2, f2⟩ := h1.num (S' := { S with at_ := a, e := e }) (i := 6) (u := .int .i64 e) (by simp [dirC]) rfl rfl rfl rfl h.calls
  obtain ⟨h3, f3⟩ := h2.num (S' := { S with at_ := a, e := e, part := q }) (i := 7) (u := .int .i64 q) (by simp [dirC]) rfl rfl rfl rfl h.calls
  exact ⟨h3, (f1.ts f2).ts f3⟩
end
set_option maxRecDepth 100000 in
set_option maxHeartbeats 800000 in
theorem fail_any (w : World) (Z : Nat → Prop) (d N : Nat) (S : Di) (p : Ph) (n e part : Int) (h : DirP w Z d S N p) (hN : N < 1099511627000) :
    Calls Try.prog 20 #[.pointer (some ⟨d, 0, none⟩), .int .i64 n, .int .i64 e, .int .i64 part] w (fun en w' => en = .returned (.tuple #[]) ∧ Step w w' Z d (faiS S n e part) N) := by
  have k5 : w.cell? ⟨d, 5, none⟩ = some (.int .i64 S.at_) := h.cell rfl
  have k6 : w.cell? ⟨d, 6, none⟩ = some (.int .i64 S.e) := h.cell rfl
  have k7 : w.cell? ⟨d, 7, none⟩ = some (.int .i64 S.part) := h.cell rfl
  have k3 : w.cell? ⟨d, 3, none⟩ = some (.int .i64 (S.calls : Nat)) := h.cell rfl
  have g5 := h.open_ 5
  have g6 := h.open_ 6
  have g7 := h.open_ 7
  have HH := hide h
  clear h
  by_cases h1 : 1 ≤ n
  · have d1 : decide (1 ≤ n) = true := decide_eq_true h1
    by_cases h2 : e = 0
    · have HQ := hide (show faiS S n e part = { S with at_ := 0, e := 0, part := 0 } from if_neg (fun hh => hh.2.1 h2))
      subst h2
      go_enter Try.func20, Try.ntmps20
      go_wp2
      go_end0
      obtain ⟨h1, f1⟩ := HH.out.fail 0 0 0
      exact ⟨rfl, by rw [HQ.out]; exact Step.of h1 (f1.isZ HH.out.zd)⟩
    · have d2 : (e != 0) = true := by simp [h2]
      by_cases h3 : n < 1099511627776
      · have d3 : decide (n < 1099511627776) = true := decide_eq_true h3
        have hw : wrap64 ((S.calls : Int) + n) = (S.calls : Int) + n := by
          have := HH.out.calls
          unfold wrap64
          omega
        have HQ := hide (show faiS S n e part = { S with at_ := (S.calls : Int) + n, e := e, part := part } from if_pos ⟨h1, h2, h3⟩)
        go_enter Try.func20, Try.ntmps20
        go_wp2
        go_end0
        obtain ⟨h4, f4⟩ := HH.out.fail 0 0 0
        obtain ⟨h5, f5⟩ := h4.fail ((S.calls : Int) + n) e part
        exact ⟨rfl, by rw [HQ.out]; exact Step.of h5 ((f4.ts f5).isZ HH.out.zd)⟩
      · have d3 : decide (n < 1099511627776) = false := decide_eq_false h3
        have HQ := hide (show faiS S n e part = { S with at_ := 0, e := 0, part := 0 } from if_neg (fun hh => h3 hh.2.2))
        go_enter Try.func20, Try.ntmps20
        go_wp2
        go_end0
        obtain ⟨h1, f1⟩ := HH.out.fail 0 0 0
        exact ⟨rfl, by rw [HQ.out]; exact Step.of h1 (f1.isZ HH.out.zd)⟩
  · have d1 : decide (1 ≤ n) = false := decide_eq_false h1
    have HQ := hide (show faiS S n e part = { S with at_ := 0, e := 0, part := 0 } from if_neg (fun hh => h1 hh.1))
    go_enter Try.func20, Try.ntmps20
    go_wp2
    go_end0
    obtain ⟨h1, f1⟩ := HH.out.fail 0 0 0
    exact ⟨rfl, by rw [HQ.out]; exact Step.of h1 (f1.isZ HH.out.zd)⟩
end Go.Proofs.Ythbgcmffpnmbeaa
