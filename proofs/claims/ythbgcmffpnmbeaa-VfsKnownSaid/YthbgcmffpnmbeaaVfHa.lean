/- Halt. -/
import Derived.Test.YthbgcmffpnmbeaaVfBg
namespace Go.Proofs.Ythbgcmffpnmbeaa
set_option linter.unusedVariables false
set_option linter.unusedSimpArgs false
open Go.RowKit Go.Maps

def halS (S : Di) (n : Int) : Di := if S.off = true then S else { S with halt := (S.calls : Int) + min (max n 0) 1099511627776 }
set_option maxRecDepth 100000 in
set_option maxHeartbeats 800000 in
theorem halt_any (w : World) (Z : Nat → Prop) (d N : Nat) (S : Di) (p : Ph) (n : Int) (h : DirP w Z d S N p) (hN : N < 1099511627000) :
    Calls Try.prog 26 #[.pointer (some ⟨d, 0, none⟩), .int .i64 n] w (fun en w' => en = .returned (.tuple #[]) ∧ Step w w' Z d (halS S n) N) := by
  have HO := hide (off_any h)
  have k3 : w.cell? ⟨d, 3, none⟩ = some (.int .i64 (S.calls : Nat)) := h.cell rfl
  have k4 : w.cell? ⟨d, 4, none⟩ = some (.int .i64 S.halt) := h.cell rfl
  have g4 := h.open_ 4
  have hcl := h.calls
  have HP := hide h
  clear h
  unfold halS
  cases ho : S.off with
  | true =>
    rw [ho] at HO
    rw [if_pos rfl]
    go_enter Try.func26, Try.ntmps26
    go_wp2_with (go_at_call 39; refine HO.out.mono ?_; rintro e w2 ⟨rfl, q, rfl⟩)
    go_end0
    exact ⟨rfl, Step.of (HP.out.fr0 ((Fr.refl _ _).drewN _)) ((Fr.refl _ _).drewN _)⟩
  | false =>
    rw [ho] at HO
    rw [if_neg (by simp)]
    obtain ⟨hv, hhv⟩ : ∃ v : Int, min (max n 0) 1099511627776 = v ∧ 0 ≤ v ∧ v ≤ 1099511627776 := ⟨_, rfl, by omega, by omega⟩
    have hmx := hhv.1
    have hv0 := hhv.2.1
    have hv1 := hhv.2.2
    rw [hmx]
    clear hhv
    go_enter Try.func26, Try.ntmps26
    go_wp2_with (go_at_call 39; refine HO.out.mono ?_; rintro e w2 ⟨rfl, q, rfl⟩)
    go_end0
    obtain ⟨h1, f1⟩ := (HP.out.fr0 ((Fr.refl No w).drewN q)).num (S' := { S with halt := (S.calls : Int) + hv }) (i := 4) (u := .int .i64 ((S.calls : Int) + hv)) (by simp [dirC]) rfl rfl rfl rfl hcl
    exact ⟨rfl, Step.of h1 ((((Fr.refl No w).drewN q).any Z).ts (f1.isZ HP.out.zd))⟩
end Go.Proofs.Ythbgcmffpnmbeaa
