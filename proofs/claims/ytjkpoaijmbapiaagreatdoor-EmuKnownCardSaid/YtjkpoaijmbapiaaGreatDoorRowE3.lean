/- The row of EmuKnown, and its card: where the listed tables start as the text lays them, the law returns true. -/
import Derived.Test.YtjkpoaijmbapiaaGreatDoorCards
import Derived.Test.YtjkpoaijmbapiaaGreatDoorTie
import Derived.Test.YtjkpoaijmbapiaaGreatDoorRowE2
import Derived.Deep.DeepHandedRow
import Derived.Deep.DeepWitnessRowRef
import Derived.SevenTiedAt
import Derived.Lay
import Derived.Lib.LaidTab
import Derived.WalkKit
import Derived.ProofKit
import Derived.OpenShut
import Derived.ChangeOld
import Derived.Below
import Derived.SizedLaws
namespace Go.Proofs.YtjkpoaijmbapiaaGreatDoor.emuKnown
set_option linter.all false
open Go.ChangeShapes Go.WideShapes Go.ChangeAt Go.RowKit
open Go.Am (law_calls sim0)

set_option maxRecDepth 100000 in
theorem lifted (os : Os) (started : os.Started) (H : Type) (enc : TypeId × Value → H) (F : Stop.Interp) :
    ReturnsInHanded {} Tryz.checked os 3 .any ((OpenSpec.ofChange Rows.emuKnownSpec).preRow enc Tryz.prog Tryz.f3 Rows.emuKnownRow.domain false Rows.emuKnownRow.laid) (((OpenSpec.ofChange Rows.emuKnownSpec).at F).post enc Tryz.prog Tryz.f3 false true false false) := by
  obtain ⟨places, hx⟩ := reads os enc
  refine returnsInHanded_of_row (C := Tryz.checked) (s := OpenSpec.ofChange Rows.emuKnownSpec) own started (by kernel_rfl) Tryz.func3
    (witness_row_atRef (enc := enc) (C := Tryz.checked) false (laidWorld os) #[] (World.laidAll_os _ _ _) (by kernel_rfl) (by kernel_rfl) (by kernel_rfl)
      (OpenSpec.preRow_of_cond 8 hx (by kernel_rfl) (fun k hk => by cases hk) (by kernel_rfl) (laid_met os))) ?_
  intro W base args ds gs before hval hW _ _ hsz hlaid _ _
  exact contract H enc W args ds gs before hW hlaid

end Go.Proofs.YtjkpoaijmbapiaaGreatDoor.emuKnown
