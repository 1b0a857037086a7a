/- The row of EmuKnown, and its card: where the listed tables start as the text lays them, the law returns true. -/
import Derived.Test.YtjkpoaijmbapiaaGreatDoorCards
import Derived.Test.YtjkpoaijmbapiaaGreatDoorTie
import Derived.Test.YtjkpoaijmbapiaaGreatDoorRowE1
import Derived.Deep.DeepHandedRow
import Derived.Deep.DeepWitnessRowRef
import Derived.SevenTiedAt
import Derived.Lay
import Derived.Lib.LaidTab
import Derived.WalkKit
import Derived.ProofKit
import Derived.OpenShut
import Derived.ChangeOld
import Derived.Below
import Derived.SizedLaws
namespace Go.Proofs.YtjkpoaijmbapiaaGreatDoor.emuKnown
set_option linter.all false
open Go.ChangeShapes Go.WideShapes Go.ChangeAt Go.RowKit
open Go.Am (law_calls sim0)

/-- A world for the witness: the settled one, the tables holding what the text lays. -/
noncomputable def laidWorld (os : Os) : World := World.laidAll Tryz.prog os Rows.emuKnownRow.laid
set_option maxRecDepth 100000 in
theorem laid_met (os : Os) : laidMet Tryz.prog Rows.emuKnownRow.laid ((laidWorld os).forCall (fun _ _ => 0) ⟨#[], #[], []⟩).memory :=
  laidMet_of_run' 8 (by kernel_rfl) (by kernel_rfl)
set_option maxRecDepth 100000 in
theorem reads (os : Os) {H : Type} (enc : TypeId × Value → H) : ∃ places, DataW.whole enc Tryz.prog ((laidWorld os).forCall (fun _ _ => 0) ⟨#[], #[], []⟩).memory Tryz.f3.params.toList Rows.emuKnownSpec.vars false #[].toList 8 = some ([], [], places) :=
  ⟨[], by kernel_rfl⟩

end Go.Proofs.YtjkpoaijmbapiaaGreatDoor.emuKnown
