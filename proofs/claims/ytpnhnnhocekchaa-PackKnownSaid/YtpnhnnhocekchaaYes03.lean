/- Words: bytes and numbers that are the same; blocks of literals. -/
import Derived.Test.YtpnhnnhocekchaaKit8
import Derived.Test.YtpnhnnhocekchaaKitU64
import Derived.Test.YtpnhnnhocekchaaKitI64
import Derived.Test.YtpnhnnhocekchaaMem4
import Derived.Test.YtpnhnnhocekchaaPackP
namespace Go.Proofs.Ytpnhnnhocekchaa
set_option linter.unusedVariables false
set_option linter.unusedSimpArgs false
open Go.RowKit

theorem retB_q {b : Bool} {w : World} {f : Nat} {args : Array Value} (h : Calls Try.prog f args w (RetQ (.bool b) w)) : Calls Try.prog f args w (RetB b w) := h.mono fun en w' ⟨h1, n, h2⟩ => ⟨h1, by rw [h2]; exact (Fr.refl No w).drewN n⟩
/-- are bytes the same? -/
theorem bytes_b (A B : Option Addr) (n c m d : Nat) (xs ys : List UInt8) (W : World) (hx : xs.length = n) (hy : ys.length = m) (hn : n ≤ c) (hc : c ≤ maxLen) (hm : m ≤ d) (hd : d ≤ maxLen) (hr : Rd W W.heap.size A (by8 xs)) (hs : Rd W W.heap.size B (by8 ys)) :
    Calls Try.prog 23 #[.slice A n c, .slice B m d] W (RetB (decide (xs = ys)) W) := retB_q (kbytes_any A B n c m d W.heap.size W.heap.size xs ys W hx hy hn hc hm hd hr hs)
theorem i64_b (A B : Option Addr) (n c m d : Nat) (xs ys : List Int) (W : World) (hx : xs.length = n) (hy : ys.length = m) (hn : n ≤ c) (hc : c ≤ maxLen) (hm : m ≤ d) (hd : d ≤ maxLen) (hr : Rd W W.heap.size A (iz .i64 xs)) (hs : Rd W W.heap.size B (iz .i64 ys)) :
    Calls Try.prog 34 #[.slice A n c, .slice B m d] W (RetB (decide (xs = ys)) W) := retB_q (sameI64_any A B n c m d W.heap.size W.heap.size xs ys W hx hy hn hc hm hd hr hs)
theorem u64_b (A B : Option Addr) (n c m d : Nat) (xs ys : List Nat) (W : World) (hx : xs.length = n) (hy : ys.length = m) (hn : n ≤ c) (hc : c ≤ maxLen) (hm : m ≤ d) (hd : d ≤ maxLen) (hr : Rd W W.heap.size A (nz xs)) (hs : Rd W W.heap.size B (nz ys)) :
    Calls Try.prog 24 #[.slice A n c, .slice B m d] W (RetB (decide (xs = ys)) W) := by
  have h := retB_q (sameU64_any A B n c m d W.heap.size W.heap.size (zN xs) (zN ys) W (by rw [zN_len]; exact hx) (by rw [zN_len]; exact hy) hn hc hm hd hr hs)
  have e : decide (zN xs = zN ys) = decide (xs = ys) := by simp only [zN_eq]
  rw [e] at h
  exact h
theorem Rd.litI {W : World} {cs : Array Value} {e : TypeId} {k : IntKind} {l : List Int} (h : cs.toList = iz k l) : Rd (W.alloc (.cells cs e)) (W.alloc (.cells cs e)).heap.size (some ⟨W.heap.size, 0, none⟩) (iz k l) := by
  rw [← h]
  exact (Rd.block (heap_alloc_new W _)).more (by simp)
theorem Rd.litN {W : World} {cs : Array Value} {e : TypeId} {l : List Nat} (h : cs.toList = nz l) : Rd (W.alloc (.cells cs e)) (W.alloc (.cells cs e)).heap.size (some ⟨W.heap.size, 0, none⟩) (nz l) := by
  rw [← h]
  exact (Rd.block (heap_alloc_new W _)).more (by simp)
theorem Rd.litB {W : World} {cs : Array Value} {e : TypeId} {l : List UInt8} (h : cs.toList = by8 l) : Rd (W.alloc (.cells cs e)) (W.alloc (.cells cs e)).heap.size (some ⟨W.heap.size, 0, none⟩) (by8 l) := by
  rw [← h]
  exact (Rd.block (heap_alloc_new W _)).more (by simp)
end Go.Proofs.Ytpnhnnhocekchaa
