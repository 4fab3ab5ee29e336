/-
  DERIVED. GIVEN WITH THE SEED: THE CARDS: each row of YtfkmjepbckafdaaDoorRows.lean that lists a variable, with what it lists TIED to the program's text (the seventh form; the later family's looks); each row that meets fmt, with fmt's text TOLD by the authors' own Lean function (tested against real Go, not proved from fmt's source: count such statements apart). THE CARD IS WHAT COUNTS. Prove the row's statement (the work); the ties are given (YtfkmjepbckafdaaDoorTie.lean); close each card by the builder's one call (the guide's Derived/Test/ToyasCard.lean, 'card_holds'). Laid BY PROGRAM, IN A SANDBOX (cutbox-door.mjs). By AI agents, Wed Nov 11 2026. No macro, syntax, notation, axiom, sorry.
-/
import Derived.Test.YtfkmjepbckafdaaDoorRows
import GoSem.ClaimSeven
namespace Go.Proofs.YtfkmjepbckafdaaDoor
namespace Rows

/-- THE TIED CARD OF 'cisternlaw09.AllocCopies'. -/
def allocCopiesCard : Claim7 := { stood := { row := allocCopiesRow, standIns := [], harness := (true, "f1a14cdd56e215a5f24c1aa860f672c5ba6f6b665bdcad7ed1e1e1936b3864f1"), looks := false }, kinds := [], alts := [], laidByText := true, laidKinds := [.data], laidTests := true, laidLooks := .later }
def AllocCopiesCardSaid : Prop := Claim7.holds Tryd.pinned (.plain (OpenSpec.ofChange allocCopiesSpec)) allocCopiesCard

/-- THE TIED CARD OF 'cisternlaw09.AllocLeast'. -/
def allocLeastCard : Claim7 := { stood := { row := allocLeastRow, standIns := [], harness := (true, "f1a14cdd56e215a5f24c1aa860f672c5ba6f6b665bdcad7ed1e1e1936b3864f1"), looks := false }, kinds := [], alts := [], laidByText := true, laidKinds := [.data], laidTests := true, laidLooks := .later }
def AllocLeastCardSaid : Prop := Claim7.holds Tryd.pinned (.plain (OpenSpec.ofChange allocLeastSpec)) allocLeastCard

/-- THE TIED CARD OF 'cisternlaw09.AllocHolds'. -/
def allocHoldsCard : Claim7 := { stood := { row := allocHoldsRow, standIns := [], harness := (true, "f1a14cdd56e215a5f24c1aa860f672c5ba6f6b665bdcad7ed1e1e1936b3864f1"), looks := false }, kinds := [], alts := [], laidByText := true, laidKinds := [.data], laidTests := true, laidLooks := .later }
def AllocHoldsCardSaid : Prop := Claim7.holds Tryd.pinned (.plain (OpenSpec.ofChange allocHoldsSpec)) allocHoldsCard

/-- THE TIED CARD OF 'cisternlaw09.AllocReserves'. -/
def allocReservesCard : Claim7 := { stood := { row := allocReservesRow, standIns := [], harness := (true, "f1a14cdd56e215a5f24c1aa860f672c5ba6f6b665bdcad7ed1e1e1936b3864f1"), looks := false }, kinds := [], alts := [], laidByText := true, laidKinds := [.data], laidTests := true, laidLooks := .later }
def AllocReservesCardSaid : Prop := Claim7.holds Tryd.pinned (.plain (OpenSpec.ofChange allocReservesSpec)) allocReservesCard

/-- THE TIED CARD OF 'cisternlaw09.AllocPlays'. -/
def allocPlaysCard : Claim7 := { stood := { row := allocPlaysRow, standIns := [], harness := (true, "f1a14cdd56e215a5f24c1aa860f672c5ba6f6b665bdcad7ed1e1e1936b3864f1"), looks := false }, kinds := [], alts := [], laidByText := true, laidKinds := [.data], laidTests := true, laidLooks := .later }
def AllocPlaysCardSaid : Prop := Claim7.holds Tryd.pinned (.plain (OpenSpec.ofChange allocPlaysSpec)) allocPlaysCard

/-- THE SECOND FORM's CARD OF 'cisternlaw09.AllocCopies'. -/
def allocCopiesUptoCard : Claim7 := { stood := { row := allocCopiesUptoRow, standIns := [], harness := (true, "f1a14cdd56e215a5f24c1aa860f672c5ba6f6b665bdcad7ed1e1e1936b3864f1"), looks := false }, kinds := [], alts := [], laidByText := true, laidKinds := [.data], laidTests := true, laidLooks := .later }
def AllocCopiesUptoCardSaid : Prop := Claim7.holds Tryd.pinned (.plain (OpenSpec.upto allocCopiesSpec)) allocCopiesUptoCard

/-- THE SECOND FORM's CARD OF 'cisternlaw09.AllocLeast'. -/
def allocLeastUptoCard : Claim7 := { stood := { row := allocLeastUptoRow, standIns := [], harness := (true, "f1a14cdd56e215a5f24c1aa860f672c5ba6f6b665bdcad7ed1e1e1936b3864f1"), looks := false }, kinds := [], alts := [], laidByText := true, laidKinds := [.data], laidTests := true, laidLooks := .later }
def AllocLeastUptoCardSaid : Prop := Claim7.holds Tryd.pinned (.plain (OpenSpec.upto allocLeastSpec)) allocLeastUptoCard

/-- THE SECOND FORM's CARD OF 'cisternlaw09.AllocHolds'. -/
def allocHoldsUptoCard : Claim7 := { stood := { row := allocHoldsUptoRow, standIns := [], harness := (true, "f1a14cdd56e215a5f24c1aa860f672c5ba6f6b665bdcad7ed1e1e1936b3864f1"), looks := false }, kinds := [], alts := [], laidByText := true, laidKinds := [.data], laidTests := true, laidLooks := .later }
def AllocHoldsUptoCardSaid : Prop := Claim7.holds Tryd.pinned (.plain (OpenSpec.upto allocHoldsSpec)) allocHoldsUptoCard

/-- THE SECOND FORM's CARD OF 'cisternlaw09.AllocReserves'. -/
def allocReservesUptoCard : Claim7 := { stood := { row := allocReservesUptoRow, standIns := [], harness := (true, "f1a14cdd56e215a5f24c1aa860f672c5ba6f6b665bdcad7ed1e1e1936b3864f1"), looks := false }, kinds := [], alts := [], laidByText := true, laidKinds := [.data], laidTests := true, laidLooks := .later }
def AllocReservesUptoCardSaid : Prop := Claim7.holds Tryd.pinned (.plain (OpenSpec.upto allocReservesSpec)) allocReservesUptoCard

/-- THE SECOND FORM's CARD OF 'cisternlaw09.AllocPlays'. -/
def allocPlaysUptoCard : Claim7 := { stood := { row := allocPlaysUptoRow, standIns := [], harness := (true, "f1a14cdd56e215a5f24c1aa860f672c5ba6f6b665bdcad7ed1e1e1936b3864f1"), looks := false }, kinds := [], alts := [], laidByText := true, laidKinds := [.data], laidTests := true, laidLooks := .later }
def AllocPlaysUptoCardSaid : Prop := Claim7.holds Tryd.pinned (.plain (OpenSpec.upto allocPlaysSpec)) allocPlaysUptoCard
end Rows
end Go.Proofs.YtfkmjepbckafdaaDoor
