/- The row of EmuKnown, and its card: where the listed tables start as the text lays them, the law returns true. -/
import Derived.Test.YtjkpoaijmbapiaaGreatDoorCards
import Derived.Test.YtjkpoaijmbapiaaGreatDoorTie
import Derived.Test.YtjkpoaijmbapiaaGreatDoorRowE3
import Derived.Deep.DeepHandedRow
import Derived.Deep.DeepWitnessRowRef
import Derived.SevenTiedAt
import Derived.Lay
import Derived.Lib.LaidTab
import Derived.WalkKit
import Derived.ProofKit
import Derived.OpenShut
import Derived.ChangeOld
import Derived.Below
import Derived.SizedLaws
namespace Go.Proofs.YtjkpoaijmbapiaaGreatDoor.emuKnown
set_option linter.all false
open Go.ChangeShapes Go.WideShapes Go.ChangeAt Go.RowKit
open Go.Am (law_calls sim0)

theorem k1 : laidOutB Tryz.prog = true := by kernel_rfl
theorem k2 : mapsRowed Tryz.prog = true := by kernel_rfl
theorem k3 : Tryz.prog.inPlace 3 = Rows.emuKnownRow.inPlace := by kernel_rfl
theorem k4 : Tryz.prog.unfollowed 3 = Rows.emuKnownRow.unfollowed := by kernel_rfl
theorem k5 : Tryz.prog.recurses 3 = Rows.emuKnownRow.recurses := by kernel_rfl
theorem k6 : Tryz.prog.varsNamed 3 = Rows.emuKnownRow.named := by kernel_rfl
theorem k7 : Tryz.prog.mayEnter = true := by kernel_rfl
theorem k8 : Tryz.prog.liftsFinal = Rows.emuKnownRow.lifted := by kernel_rfl
theorem k9 : Tryz.prog.stopsHeard = true := by kernel_rfl
theorem facts : joinedFacts Tryz.prog 3 Tryz.f3 (OpenSpec.ofChange Rows.emuKnownSpec).bare Rows.emuKnownRow = true := by
  unfold joinedFacts; rw [k1, k2, k3, k4, k5, k6, k7, k8, k9]; kernel_rfl

theorem said : Rows.EmuKnownSaid :=
  OpenClaim.holds_of_cond 3 Tryz.f3 rfl rfl rfl rfl rfl rfl rfl ⟨rfl, rfl, rfl, rfl, rfl⟩ rfl rfl rfl rfl rfl (by kernel_rfl) Tryz.func3 facts
    (of_decide_eq_true (by kernel_rfl)) (by unfold Func.isWrapper; first | (rw [if_pos (by decide +kernel)]; kernel_rfl) | (rw [if_neg (by decide +kernel)]; exact ⟨rfl, rfl⟩))
    (fun os started H enc _ F => by rw [OpenClaim.pre_eq_preRow]; exact lifted os started H enc F)

end Go.Proofs.YtjkpoaijmbapiaaGreatDoor.emuKnown
