/-
  DERIVED. GIVEN WITH THE SEED: THE CARDS: each row of YtgahgdgpncnffaaDoorRows.lean that lists a variable, with what it lists TIED to the program's text (the seventh form; the later family's looks); each row that meets fmt, with fmt's text TOLD by the authors' own Lean function (tested against real Go, not proved from fmt's source: count such statements apart). THE CARD IS WHAT COUNTS. Prove the row's statement (the work); the ties are given (YtgahgdgpncnffaaDoorTie.lean); close each card by the builder's one call (the guide's Derived/Test/ToyasCard.lean, 'card_holds'). Laid BY PROGRAM, IN A SANDBOX (cutbox-door.mjs). By AI agents, Wed Nov 11 2026. No macro, syntax, notation, axiom, sorry.
-/
import Derived.Test.YtgahgdgpncnffaaDoorRows
import GoSem.ClaimSeven
namespace Go.Proofs.YtgahgdgpncnffaaDoor
namespace Rows

/-- THE TIED CARD OF 'foresightkeep.DepotCrashes'. -/
def depotCrashesCard : Claim7 := { stood := { row := depotCrashesRow, standIns := [], harness := (true, "6b6d5754ad6aa20a0ad98112a6f88e42325747402a7f957dbde70314fb09d3d0"), looks := true }, kinds := [], alts := [], laidByText := true, laidKinds := [.data, .data, .data, .data, .sentinel, .sentinel, .pinned], laidTests := true, laidLooks := .later }
def DepotCrashesCardSaid : Prop := Claim7.holds Tryd.pinned (.plain (OpenSpec.ofChange depotCrashesSpec)) depotCrashesCard

/-- THE TIED CARD OF 'foresightkeep.DepotBits'. -/
def depotBitsCard : Claim7 := { stood := { row := depotBitsRow, standIns := [], harness := (true, "6b6d5754ad6aa20a0ad98112a6f88e42325747402a7f957dbde70314fb09d3d0"), looks := true }, kinds := [], alts := [], laidByText := true, laidKinds := [.data, .data, .data, .data, .sentinel, .sentinel, .pinned], laidTests := true, laidLooks := .later }
def DepotBitsCardSaid : Prop := Claim7.holds Tryd.pinned (.plain (OpenSpec.ofChange depotBitsSpec)) depotBitsCard

/-- THE SECOND FORM's CARD OF 'foresightkeep.DepotCrashes'. -/
def depotCrashesUptoCard : Claim7 := { stood := { row := depotCrashesUptoRow, standIns := [], harness := (true, "6b6d5754ad6aa20a0ad98112a6f88e42325747402a7f957dbde70314fb09d3d0"), looks := true }, kinds := [], alts := [], laidByText := true, laidKinds := [.data, .data, .data, .data, .sentinel, .sentinel, .pinned], laidTests := true, laidLooks := .later }
def DepotCrashesUptoCardSaid : Prop := Claim7.holds Tryd.pinned (.plain (OpenSpec.upto depotCrashesSpec)) depotCrashesUptoCard

/-- THE SECOND FORM's CARD OF 'foresightkeep.DepotBits'. -/
def depotBitsUptoCard : Claim7 := { stood := { row := depotBitsUptoRow, standIns := [], harness := (true, "6b6d5754ad6aa20a0ad98112a6f88e42325747402a7f957dbde70314fb09d3d0"), looks := true }, kinds := [], alts := [], laidByText := true, laidKinds := [.data, .data, .data, .data, .sentinel, .sentinel, .pinned], laidTests := true, laidLooks := .later }
def DepotBitsUptoCardSaid : Prop := Claim7.holds Tryd.pinned (.plain (OpenSpec.upto depotBitsSpec)) depotBitsUptoCard
end Rows
end Go.Proofs.YtgahgdgpncnffaaDoor
