/- The walk of bad: bytes that are no set. -/
import Derived.Test.YtapfbjaopbcgjaaDoorReadW
namespace Go.Proofs.YtapfbjaopbcgjaaDoor
set_option linter.unusedVariables false
set_option linter.unusedSimpArgs false
open Go.RowKit

set_option maxRecDepth 100000 in
theorem bad_any (A : Option Addr) (n c B : Nat) (bs : List UInt8) (w : World) (hno : ¬ readsB bs) (hl : bs.length = n) (hn : n ≤ c) (hc : c ≤ maxLen) (hb : n ≤ 140737488355328) (hB : B ≤ w.heap.size) (hr : Rd w B A (by8 bs)) :
    Calls Tryd.prog 39 #[.slice A n c] w (RetB true w) := by
  have H := hide (read_any A n c B bs w hl hn hc hb hB hr)
  have HN := hide hno
  clear hl hn hc hb hB hr hno
  go_enter Tryd.func39, Tryd.ntmps39
  go_wp2_with (fail)
  refine H.out.mono ?_
  rintro en w1 ⟨v, e, rfl, hv, hfr⟩
  obtain ⟨rfl, rfl⟩ : v = .pointer none ∧ e = 20 := by
    rcases hv with ⟨_, h⟩ | ⟨h, _⟩
    · exact h
    · exact absurd h HN.out
  have F := hide hfr
  clear hv hfr
  go_wp2_with (fail)
  go_ret
  exact ⟨rfl, F.out⟩
end Go.Proofs.YtapfbjaopbcgjaaDoor
