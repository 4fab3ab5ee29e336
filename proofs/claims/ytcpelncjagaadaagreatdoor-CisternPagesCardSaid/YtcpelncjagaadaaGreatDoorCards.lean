/-
  DERIVED. GIVEN WITH THE SEED: THE CARDS: each row of YtcpelncjagaadaaGreatDoorRows.lean that lists a variable, with what it lists TIED to the program's text (the seventh form; the later family's looks); each row that meets fmt, with fmt's text TOLD by the authors' own Lean function (tested against real Go, not proved from fmt's source: count such statements apart). THE CARD IS WHAT COUNTS. Prove the row's statement (the work); the ties are given (YtcpelncjagaadaaGreatDoorTie.lean); close each card by the builder's one call (the guide's Derived/Test/ToyasCard.lean, 'card_holds'). Laid BY PROGRAM, IN A SANDBOX (cutbox-door.mjs). By AI agents, Wed Nov 11 2026. No macro, syntax, notation, axiom, sorry.
-/
import Derived.Test.YtcpelncjagaadaaGreatDoorRows
import GoSem.ClaimSeven
namespace Go.Proofs.YtcpelncjagaadaaGreatDoor
namespace Rows

/-- THE TIED CARD OF 'cisterntop.CisternPages'. -/
def cisternPagesCard : Claim7 := { stood := { row := cisternPagesRow, standIns := [], harness := (true, "5117a8ba292df539e025b7c7098b89943746b3e763ab1a6a51716e6117d2f3ef"), looks := false }, kinds := [], alts := [], laidByText := true, laidKinds := [.data, .pinned], laidTests := true, laidLooks := .later }
def CisternPagesCardSaid : Prop := Claim7.holds Tryz.pinned (.plain (OpenSpec.ofChange cisternPagesSpec)) cisternPagesCard

/-- THE SECOND FORM's CARD OF 'cisterntop.CisternPages'. -/
def cisternPagesUptoCard : Claim7 := { stood := { row := cisternPagesUptoRow, standIns := [], harness := (true, "5117a8ba292df539e025b7c7098b89943746b3e763ab1a6a51716e6117d2f3ef"), looks := false }, kinds := [], alts := [], laidByText := true, laidKinds := [.data, .pinned], laidTests := true, laidLooks := .later }
def CisternPagesUptoCardSaid : Prop := Claim7.holds Tryz.pinned (.plain (OpenSpec.upto cisternPagesSpec)) cisternPagesUptoCard
end Rows
end Go.Proofs.YtcpelncjagaadaaGreatDoor
