/- What the library does to rows of pairs, at this program: the answers told ahead, and that they are so. -/
import Derived.Test.YtdddcofggemnkaaAmPair
import Derived.Test.YtdddcofggemnkaaSortP
namespace Go.Am
set_option linter.all false
open Go

def sortFO := sortPO Go.Proofs.sortF 64

theorem sortFO_sound {okc : Nat → Code → C → Prop} {fn : IFn} (ho : fn.orc = sortFO) : OrcSound Go.Proofs.Try.prog okc 63 fn :=
  sortPO_sound ho Go.Proofs.sortF_len Go.Proofs.Try.sortFunc63_flat Go.Proofs.Try.sortFunc63_none
theorem cloneP_sound {okc : Nat → Code → C → Prop} {fn : IFn} (ho : fn.orc = cloneP) : OrcSound Go.Proofs.Try.prog okc 69 fn :=
  cloneO_sound ho (by decide) (by decide) Go.Proofs.Try.clone69 Go.Proofs.Try.clone69_zero Go.Proofs.Try.slices_Clone_nil_f69
theorem cloneI_sound {okc : Nat → Code → C → Prop} {fn : IFn} (ho : fn.orc = cloneI) : OrcSound Go.Proofs.Try.prog okc 72 fn :=
  cloneO_sound ho (by decide) (by decide) Go.Proofs.Try.clone72 Go.Proofs.Try.clone72_zero Go.Proofs.Try.slices_Clone_nil_f72
end Go.Am
