/- The row of EmuKnown, and its card: where the listed tables start as the text lays them, the law returns true. -/
import Derived.Test.YtjkpoaijmbapiaaGreatDoorCards
import Derived.Test.YtjkpoaijmbapiaaGreatDoorTie
import Derived.Test.YtjkpoaijmbapiaaGreatDoorRowE4
import Derived.Deep.DeepHandedRow
import Derived.Deep.DeepWitnessRowRef
import Derived.SevenTiedAt
import Derived.Lay
import Derived.Lib.LaidTab
import Derived.WalkKit
import Derived.ProofKit
import Derived.OpenShut
import Derived.ChangeOld
import Derived.Below
import Derived.SizedLaws
namespace Go.Proofs.YtjkpoaijmbapiaaGreatDoor.emuKnown
set_option linter.all false
open Go.ChangeShapes Go.WideShapes Go.ChangeAt Go.RowKit
open Go.Am (law_calls sim0)

/-- No parameter wants a stand-in; the program's own looks are off: what the card asks. -/
theorem plainArgs (f : FuncId) (fn : Func) (hf : Tryz.pinned.checked.prog.funcNamed "resolvent/resolventlaw24.EmuKnown" = some f) (hfn : Tryz.pinned.checked.prog.funcs[f]? = some fn) :
    true = Tryz.pinned.checked.prog.looks [] ∧ ∀ (j : Nat) t, fn.params[j]? = some t → Tryz.pinned.checked.prog.wantsStandIn t = false := by
  obtain rfl : f = 3 := Option.some.inj ((show Tryz.prog.funcNamed "resolvent/resolventlaw24.EmuKnown" = some 3 by kernel_rfl).symm.trans hf) |>.symm
  obtain rfl : fn = Tryz.f3 := (Option.some.inj (Tryz.func3.symm.trans hfn)).symm
  refine ⟨by kernel_rfl, fun j t ht => ?_⟩
  rw [Tryz.params3] at ht
  cases ht

theorem card : Rows.EmuKnownCardSaid :=
  Claim7.holds_tied_plain_at .later [] _ _ _ _ said (fun _ h => by cases h) (by kernel_rfl) (fun _ h => by cases h) emuKnown_row_tie rfl ⟨rfl, rfl⟩ (by kernel_rfl) rfl plainArgs (by kernel_rfl)
end Go.Proofs.YtjkpoaijmbapiaaGreatDoor.emuKnown
namespace Go.Proofs.YtjkpoaijmbapiaaGreatDoor
/-- The card, under a short name, for the claim. -/
theorem emuKnown_holds : Rows.EmuKnownCardSaid := emuKnown.card
#print axioms emuKnown_holds
end Go.Proofs.YtjkpoaijmbapiaaGreatDoor
