/- A check's four bytes, as the program lays them. -/
import Derived.Test.YtapfbjaopbcgjaaMem4
import Derived.Test.YtapfbjaopbcgjaaCrcP
namespace Go.Proofs.Ytapfbjaopbcgjaa
set_option linter.unusedVariables false
set_option linter.unusedSimpArgs false
open Go.RowKit

theorem u8_four (x d : Nat) : (((UInt8.ofNat (x / d % 256)).toNat : Nat) : Int) = (x : Int) / d % 256 := by
  have h : (UInt8.ofNat (x / d % 256)).toNat = x / d % 256 := ofNat_toNat (Nat.mod_lt _ (by omega))
  rw [h]
  simp
theorem u8_four0 (x : Nat) : (((UInt8.ofNat (x % 256)).toNat : Nat) : Int) = (x : Int) % 256 := by
  have h : (UInt8.ofNat (x % 256)).toNat = x % 256 := ofNat_toNat (Nat.mod_lt _ (by omega))
  rw [h]
  simp

theorem four_cells (x : Nat) (hx : x < 4294967296) : [Value.int .u8 ((x : Int) % 256), .int .u8 ((x : Int) / 256 % 256), .int .u8 ((x : Int) / 65536 % 256), .int .u8 ((x : Int) / 16777216)] = by8 (fourB x) := by
  have h1 := u8_four x 256
  have h2 := u8_four x 65536
  have h3 := u8_four x 16777216
  simp [by8, fourB, h1, h2, h3, u8_four0]
  omega
theorem lit_src (w : World) (cs : Array Value) (k : Nat) (bs : List UInt8) (h : cs.toList = by8 bs) (hk : bs.length = k) : Src Try.prog 1 23 (.slice (some ⟨w.heap.size, 0, none⟩) k k) k (by8 bs) (w.alloc (.cells cs 5)) := by
  refine Src.ofRd (P := Try.prog) (size := 1) (B := w.heap.size + 1) _ Try.underlying23 _ k k (by8 bs) (by rw [by8_length, hk]; omega) (by omega) ?_ (by8_one _)
  rw [← h]
  exact Rd.block (heap_alloc_new w _)

set_option maxRecDepth 100000 in
set_option maxHeartbeats 400000 in
theorem four_any (x : Nat) (w : World) (hx : x < 4294967296) : Calls Try.prog 27 #[.int .u32 (x : Nat)] w (GivesB w (fourB x)) := by
  go_enter Try.func27, Try.ntmps27
  go_wp2
  go_ret
  refine ⟨_, rfl, own_new8 w _ 4 (fourB x) _ ?_ rfl (by unfold maxLen; omega), (Fr.refl _ _).alloc _⟩
  have h1 := u8_four x 256
  have h2 := u8_four x 65536
  have h3 := u8_four x 16777216
  simp [by8, fourB, h1, h2, h3, u8_four0]
  omega
end Go.Proofs.Ytapfbjaopbcgjaa
