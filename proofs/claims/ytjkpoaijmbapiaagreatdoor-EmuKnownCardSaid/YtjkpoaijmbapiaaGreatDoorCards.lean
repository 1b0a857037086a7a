/-
  DERIVED. GIVEN WITH THE SEED: THE CARDS: each row of YtjkpoaijmbapiaaGreatDoorRows.lean that lists a variable, with what it lists TIED to the program's text (the seventh form; the later family's looks); each row that meets fmt, with fmt's text TOLD by the authors' own Lean function (tested against real Go, not proved from fmt's source: count such statements apart). THE CARD IS WHAT COUNTS. Prove the row's statement (the work); the ties are given (YtjkpoaijmbapiaaGreatDoorTie.lean); close each card by the builder's one call (the guide's Derived/Test/ToyasCard.lean, 'card_holds'). Laid BY PROGRAM, IN A SANDBOX (cutbox-door.mjs). By AI agents, Wed Nov 11 2026. No macro, syntax, notation, axiom, sorry.
-/
import Derived.Test.YtjkpoaijmbapiaaGreatDoorRows
import GoSem.ClaimSeven
namespace Go.Proofs.YtjkpoaijmbapiaaGreatDoor
namespace Rows

/-- THE TIED CARD OF 'resolventlaw24.EmuKnown'. -/
def emuKnownCard : Claim7 := { stood := { row := emuKnownRow, standIns := [], harness := (true, "9a1f552eccc9447dccc5258c4845ae49e1ee8b90099ea1270fef677f2eb94e1a"), looks := true }, kinds := [], alts := [], laidByText := true, laidKinds := [.listed, .data], laidTests := true, laidLooks := .later }
def EmuKnownCardSaid : Prop := Claim7.holds Tryz.pinned (.plain (OpenSpec.ofChange emuKnownSpec)) emuKnownCard

/-- THE SECOND FORM's CARD OF 'resolventlaw24.EmuKnown'. -/
def emuKnownUptoCard : Claim7 := { stood := { row := emuKnownUptoRow, standIns := [], harness := (true, "9a1f552eccc9447dccc5258c4845ae49e1ee8b90099ea1270fef677f2eb94e1a"), looks := true }, kinds := [], alts := [], laidByText := true, laidKinds := [.listed, .data], laidTests := true, laidLooks := .later }
def EmuKnownUptoCardSaid : Prop := Claim7.holds Tryz.pinned (.plain (OpenSpec.upto emuKnownSpec)) emuKnownUptoCard
end Rows
end Go.Proofs.YtjkpoaijmbapiaaGreatDoor
