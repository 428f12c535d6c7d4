/- The document's Turned. -/
import Derived.Test.YtkenjhalamdjfaaRefUint
import Derived.IntWalk
namespace Go.Proofs.Ytkenjhalamdjfaa
set_option linter.unusedVariables false
set_option linter.unusedSimpArgs false
open Go.RowKit

set_option maxRecDepth 100000 in
set_option maxHeartbeats 400000 in
theorem turned_any (n : Int) (w : World) (h1 : -9223372036854775808 ≤ n) (h2 : n ≤ 9223372036854775807) :
    Calls Try.prog 24 #[.int .i64 n] w (Ret (.int .u64 (zz n)) w) := by
  by_cases h0 : 0 ≤ n
  · have HZ := hide (show (zz n : Int) = IntKind.u64.wrap (2 * IntKind.u64.wrap n) by
      unfold zz
      rw [if_pos h0, IntWalk.u64_in n (by omega), IntWalk.u64_in _ (by omega)]
      omega)
    go_enter Try.func24, Try.ntmps24
    go_wp2
    go_ret
    exact ⟨by rw [HZ.out]; first | rfl | (simp [IntKind.wrap_u64]; omega), rfl⟩
  · have HZ := hide (show (zz n : Int) = -2 * n - 1 by
      unfold zz
      rw [if_neg h0]
      omega)
    go_enter Try.func24, Try.ntmps24
    go_wp2
    go_ret
    exact ⟨by rw [HZ.out]; congr 2; simp [IntKind.wrap_u64]; omega, rfl⟩

end Go.Proofs.Ytkenjhalamdjfaa
namespace Go.Proofs.Ytkenjhalamdjfaa
end Go.Proofs.Ytkenjhalamdjfaa
