/-
  DERIVED. GIVEN WITH THE SEED: THE CARDS: each row of YtapfbjaopbcgjaaDoorRows.lean that lists a variable, with what it lists TIED to the program's text (the seventh form; the later family's looks); each row that meets fmt, with fmt's text TOLD by the authors' own Lean function (tested against real Go, not proved from fmt's source: count such statements apart). THE CARD IS WHAT COUNTS. Prove the row's statement (the work); the ties are given (YtapfbjaopbcgjaaDoorTie.lean); close each card by the builder's one call (the guide's Derived/Test/ToyasCard.lean, 'card_holds'). Laid BY PROGRAM, IN A SANDBOX (cutbox-door.mjs). By AI agents, Wed Nov 11 2026. No macro, syntax, notation, axiom, sorry.
-/
import Derived.Test.YtapfbjaopbcgjaaDoorRows
import GoSem.ClaimSeven
namespace Go.Proofs.YtapfbjaopbcgjaaDoor
namespace Rows

/-- THE TIED CARD OF 'lecternlaw14.LiveAt'. -/
def liveAtCard : Claim7 := { stood := { row := liveAtRow, standIns := [], harness := (true, "7fffb53277539b27a26ffb7f518dd233381ae2dd33e256676bbd30ee0a1886e1"), looks := false }, kinds := [], alts := [], laidByText := true, laidKinds := [.data], laidTests := true, laidLooks := .later }
def LiveAtCardSaid : Prop := Claim7.holds Tryd.pinned (.plain (OpenSpec.ofChange liveAtSpec)) liveAtCard

/-- THE TIED CARD OF 'lecternlaw14.LiveOn'. -/
def liveOnCard : Claim7 := { stood := { row := liveOnRow, standIns := [], harness := (true, "7fffb53277539b27a26ffb7f518dd233381ae2dd33e256676bbd30ee0a1886e1"), looks := false }, kinds := [], alts := [], laidByText := true, laidKinds := [.data], laidTests := true, laidLooks := .later }
def LiveOnCardSaid : Prop := Claim7.holds Tryd.pinned (.plain (OpenSpec.ofChange liveOnSpec)) liveOnCard

/-- THE TIED CARD OF 'lecternlaw14.LivePlays'. -/
def livePlaysCard : Claim7 := { stood := { row := livePlaysRow, standIns := [], harness := (true, "7fffb53277539b27a26ffb7f518dd233381ae2dd33e256676bbd30ee0a1886e1"), looks := false }, kinds := [], alts := [], laidByText := true, laidKinds := [.data], laidTests := true, laidLooks := .later }
def LivePlaysCardSaid : Prop := Claim7.holds Tryd.pinned (.plain (OpenSpec.ofChange livePlaysSpec)) livePlaysCard

/-- THE TIED CARD OF 'lecternlaw14.LiveReads'. -/
def liveReadsCard : Claim7 := { stood := { row := liveReadsRow, standIns := [], harness := (true, "7fffb53277539b27a26ffb7f518dd233381ae2dd33e256676bbd30ee0a1886e1"), looks := false }, kinds := [], alts := [], laidByText := true, laidKinds := [.data], laidTests := true, laidLooks := .later }
def LiveReadsCardSaid : Prop := Claim7.holds Tryd.pinned (.plain (OpenSpec.ofChange liveReadsSpec)) liveReadsCard

/-- THE TIED CARD OF 'lecternlaw14.LiveKnown'. -/
def liveKnownCard : Claim7 := { stood := { row := liveKnownRow, standIns := [], harness := (true, "7fffb53277539b27a26ffb7f518dd233381ae2dd33e256676bbd30ee0a1886e1"), looks := false }, kinds := [], alts := [], laidByText := true, laidKinds := [.data], laidTests := true, laidLooks := .later }
def LiveKnownCardSaid : Prop := Claim7.holds Tryd.pinned (.plain (OpenSpec.ofChange liveKnownSpec)) liveKnownCard

/-- THE TIED CARD OF 'lecternlaw14.LiveAlgebra'. -/
def liveAlgebraCard : Claim7 := { stood := { row := liveAlgebraRow, standIns := [], harness := (true, "7fffb53277539b27a26ffb7f518dd233381ae2dd33e256676bbd30ee0a1886e1"), looks := false }, kinds := [], alts := [], laidByText := true, laidKinds := [.data], laidTests := true, laidLooks := .later }
def LiveAlgebraCardSaid : Prop := Claim7.holds Tryd.pinned (.plain (OpenSpec.ofChange liveAlgebraSpec)) liveAlgebraCard

/-- THE SECOND FORM's CARD OF 'lecternlaw14.LiveAt'. -/
def liveAtUptoCard : Claim7 := { stood := { row := liveAtUptoRow, standIns := [], harness := (true, "7fffb53277539b27a26ffb7f518dd233381ae2dd33e256676bbd30ee0a1886e1"), looks := false }, kinds := [], alts := [], laidByText := true, laidKinds := [.data], laidTests := true, laidLooks := .later }
def LiveAtUptoCardSaid : Prop := Claim7.holds Tryd.pinned (.plain (OpenSpec.upto liveAtSpec)) liveAtUptoCard

/-- THE SECOND FORM's CARD OF 'lecternlaw14.LiveOn'. -/
def liveOnUptoCard : Claim7 := { stood := { row := liveOnUptoRow, standIns := [], harness := (true, "7fffb53277539b27a26ffb7f518dd233381ae2dd33e256676bbd30ee0a1886e1"), looks := false }, kinds := [], alts := [], laidByText := true, laidKinds := [.data], laidTests := true, laidLooks := .later }
def LiveOnUptoCardSaid : Prop := Claim7.holds Tryd.pinned (.plain (OpenSpec.upto liveOnSpec)) liveOnUptoCard

/-- THE SECOND FORM's CARD OF 'lecternlaw14.LivePlays'. -/
def livePlaysUptoCard : Claim7 := { stood := { row := livePlaysUptoRow, standIns := [], harness := (true, "7fffb53277539b27a26ffb7f518dd233381ae2dd33e256676bbd30ee0a1886e1"), looks := false }, kinds := [], alts := [], laidByText := true, laidKinds := [.data], laidTests := true, laidLooks := .later }
def LivePlaysUptoCardSaid : Prop := Claim7.holds Tryd.pinned (.plain (OpenSpec.upto livePlaysSpec)) livePlaysUptoCard

/-- THE SECOND FORM's CARD OF 'lecternlaw14.LiveReads'. -/
def liveReadsUptoCard : Claim7 := { stood := { row := liveReadsUptoRow, standIns := [], harness := (true, "7fffb53277539b27a26ffb7f518dd233381ae2dd33e256676bbd30ee0a1886e1"), looks := false }, kinds := [], alts := [], laidByText := true, laidKinds := [.data], laidTests := true, laidLooks := .later }
def LiveReadsUptoCardSaid : Prop := Claim7.holds Tryd.pinned (.plain (OpenSpec.upto liveReadsSpec)) liveReadsUptoCard

/-- THE SECOND FORM's CARD OF 'lecternlaw14.LiveKnown'. -/
def liveKnownUptoCard : Claim7 := { stood := { row := liveKnownUptoRow, standIns := [], harness := (true, "7fffb53277539b27a26ffb7f518dd233381ae2dd33e256676bbd30ee0a1886e1"), looks := false }, kinds := [], alts := [], laidByText := true, laidKinds := [.data], laidTests := true, laidLooks := .later }
def LiveKnownUptoCardSaid : Prop := Claim7.holds Tryd.pinned (.plain (OpenSpec.upto liveKnownSpec)) liveKnownUptoCard

/-- THE SECOND FORM's CARD OF 'lecternlaw14.LiveAlgebra'. -/
def liveAlgebraUptoCard : Claim7 := { stood := { row := liveAlgebraUptoRow, standIns := [], harness := (true, "7fffb53277539b27a26ffb7f518dd233381ae2dd33e256676bbd30ee0a1886e1"), looks := false }, kinds := [], alts := [], laidByText := true, laidKinds := [.data], laidTests := true, laidLooks := .later }
def LiveAlgebraUptoCardSaid : Prop := Claim7.holds Tryd.pinned (.plain (OpenSpec.upto liveAlgebraSpec)) liveAlgebraUptoCard
end Rows
end Go.Proofs.YtapfbjaopbcgjaaDoor
