/-
  DERIVED. GIVEN WITH THE SEED: THE CARDS: each row of YtdddcofggemnkaaDoorRows.lean that lists a variable, with what it lists TIED to the program's text (the seventh form; the later family's looks); each row that meets fmt, with fmt's text TOLD by the authors' own Lean function (tested against real Go, not proved from fmt's source: count such statements apart). THE CARD IS WHAT COUNTS. Prove the row's statement (the work); the ties are given (YtdddcofggemnkaaDoorTie.lean); close each card by the builder's one call (the guide's Derived/Test/ToyasCard.lean, 'card_holds'). Laid BY PROGRAM, IN A SANDBOX (cutbox-door.mjs). By AI agents, Wed Nov 11 2026. No macro, syntax, notation, axiom, sorry.
-/
import Derived.Test.YtdddcofggemnkaaDoorRows
import GoSem.ClaimSeven
namespace Go.Proofs.YtdddcofggemnkaaDoor
namespace Rows

/-- THE TIED CARD OF 'resolventlaw16.PosHolds'. -/
def posHoldsCard : Claim7 := { stood := { row := posHoldsRow, standIns := [], harness := (true, "18a6dcab3d207169bc3c694394651453aced92756afe6e97669673da90850fba"), looks := false }, kinds := [], alts := [], laidByText := true, laidKinds := [.data, .data, .data], laidTests := true, laidLooks := .later }
def PosHoldsCardSaid : Prop := Claim7.holds Tryd.pinned (.plain (OpenSpec.ofChange posHoldsSpec)) posHoldsCard

/-- THE SECOND FORM's CARD OF 'resolventlaw16.PosHolds'. -/
def posHoldsUptoCard : Claim7 := { stood := { row := posHoldsUptoRow, standIns := [], harness := (true, "18a6dcab3d207169bc3c694394651453aced92756afe6e97669673da90850fba"), looks := false }, kinds := [], alts := [], laidByText := true, laidKinds := [.data, .data, .data], laidTests := true, laidLooks := .later }
def PosHoldsUptoCardSaid : Prop := Claim7.holds Tryd.pinned (.plain (OpenSpec.upto posHoldsSpec)) posHoldsUptoCard
end Rows
end Go.Proofs.YtdddcofggemnkaaDoor
