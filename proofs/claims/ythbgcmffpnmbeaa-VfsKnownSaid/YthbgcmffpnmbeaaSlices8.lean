/- slices.Clone, slices.Clip at bytes. -/
import Derived.Test.YthbgcmffpnmbeaaBase
namespace Go.Proofs.Ythbgcmffpnmbeaa
set_option linter.unusedVariables false
set_option linter.unusedSimpArgs false
open Go.RowKit

set_option maxRecDepth 100000 in
set_option maxHeartbeats 400000 in
theorem clone_any (A : Option Addr) (n c B : Nat) (bs : List UInt8) (w : World) (hl : bs.length = n) (hn : n ≤ c) (hc : c ≤ maxLen) (hb : n ≤ 140737488355328) (hB : B ≤ w.heap.size) (hr : Rd w B A (by8 bs)) :
    Calls Try.prog 46 #[.slice A n c] w (GivesB w bs) := by
  have HR := hide hr; clear hr
  have HL := hide hl; clear hl
  obtain ⟨i0, hi, hz, hsz, hby⟩ := info_parts Try.info5
  cases A with
  | none =>
    have he := fun W => Lib.run_eql_slice_nil (P := Try.prog) W 35 5 none n c 0 0 Try.underlying35
    go_enter Try.func46, Try.ntmps46
    go_wp2
    go_ret
    have h0 := HR.out.len0
    subst h0
    exact ⟨_, rfl, Own.nil _ _ _ _, Fr.refl _ _⟩
  | some ad =>
    have he := fun W => Lib.run_eql_slice_nil (P := Try.prog) W 35 5 (some ad) n c 0 0 Try.underlying35
    have HS := hide (Src.ofRd (P := Try.prog) (size := 1) (w.alloc (.cells #[] 5)) Try.underlying35 (some ad) n c (by8 bs) (by rw [by8_length, HL.out]; omega) (by omega) (HR.out.fr0 ((Fr.refl _ _).alloc _)) (by8_one _))
    go_enter Try.func46, Try.ntmps46
    have b1 : (0 + n) * 1 ≤ 140737488355328 := by omega
    have b2 : 0 + n ≤ maxLen := by unfold maxLen at *; omega
    have b3 : w.heap.size ≤ (w.alloc (.cells #[] 5)).heap.size := by simp
    go_wp2_with (at_builtin; (refine wpList_append_gen _ rfl (.tmp 5) (.tmp 6) 35 35 rfl w.heap.size 5 i0 (.int .u8 0) 1 1 Try.underlying35 hi hz hsz hby rfl _ 0 [] rfl (own_empty w 5) _ n (by8 bs) rfl HS.out b1 b2 b3 ?_); intro v' w' hown hfr hat)
    go_ret
    refine ⟨v', rfl, by simpa [HL.out] using hown, ?_⟩
    exact ((Fr.refl No w).alloc _).own hfr (fun g h => .inl (Nat.le_of_eq (Option.some.inj h)))

set_option maxRecDepth 100000 in
set_option maxHeartbeats 400000 in
theorem clip_any (A : Option Addr) (n c : Nat) (w : World) (hn : n ≤ c) (hc : c ≤ maxLen) :
    Calls Try.prog 48 #[.slice A n c] w (Ret (.slice A n n) w) := by
  unfold maxLen at hc
  go_enter Try.func48, Try.ntmps48
  go_wp2
  go_ret
  exact ⟨by simp, rfl⟩

end Go.Proofs.Ythbgcmffpnmbeaa
