/-
  No cell of these rows narrows 'for every input' (looked for: loops, veiled, ifaces, maps, wideKeys, modest, calm, conditions, laid).
  DERIVED. THE GIVEN ROWS OF THIS SEAT. 7 by the template 'for every input the law returns true; each argument reads behind the call as it read before'; 0 by the template 'total and deterministic' (their statements: YtdddcofggemnkaaTotals.lean).
  GIVEN WITH THE SEED: the statements are not yours to turn. If you find one false, say at which input.
  Laid BY PROGRAM, IN A SANDBOX (cutbox-rows.mjs): the forced cells as the released guide's own fill.sh prints them over the translation 168f776045614944… (all of the seat's roots in one cut). By AI agents, Wed Nov 11 2026. No macro, syntax, notation, axiom, sorry.
-/
import Derived.Test.YtdddcofggemnkaaChecked
import GoSem.Claim
import GoSem.ClaimJoined
import GoSem.ClaimMapViews
import Derived.JoinedTies
import Derived.KernelRfl
namespace Go.Proofs.Ytdddcofggemnkaa
/- THE CELL 'sum', in the pinned program and in every row, IS THE sha256 OF THE DUMP (.gsa) THAT YtdddcofggemnkaaProg.lean LOADS. Nothing in Lean hashes anything: it is a label: what it is worth is what the hold of that sum in a sandbox is worth. -/
noncomputable def Try.pinned : Pinned := { name := "ytdddcofggemnkaa", sum := "168f7760456149447c394cb344cf5a863663d5bd6af514a1ed483e44696c9fae", checked := Try.checked }
namespace Rows
def none {H : Type} : Left H := { results := [], args := [] }

/-- 'resolventlaw16.PosFull': WHATEVER THE INPUT: true; the input reads as it did. -/
def posFullSpec : ChangeSpec := { name := "posFull", fn := fun _ => fun
  | [] => { results := [.lit (.bool true)], args := [] }
  | _ => none }
def posFullRow : OpenClaim := { program := "ytdddcofggemnkaa", sum := "168f7760456149447c394cb344cf5a863663d5bd6af514a1ed483e44696c9fae", func := "resolvent/resolventlaw16.PosFull", spec := "posFull", unfollowed := true, recurses := true, plainKeys := false, apart := false }
def PosFullSaid : Prop := posFullRow.holds Try.pinned (OpenSpec.ofChange posFullSpec)

/-- ITS FALSE NEIGHBOUR: 'it returns false'. Refute it at one input. -/
def posFullWrong : ChangeSpec := { name := "posFull", fn := fun _ => fun
  | [] => { results := [.lit (.bool false)], args := [] }
  | _ => none }
def PosFullWrongFalsely : Prop := posFullRow.holds Try.pinned (OpenSpec.ofChange posFullWrong)

/-- 'resolventlaw16.PosTells': WHATEVER THE INPUT: true; the input reads as it did. -/
def posTellsSpec : ChangeSpec := { name := "posTells", fn := fun _ => fun
  | [d] => { results := [.lit (.bool true)], args := [d] }
  | _ => none }
def posTellsRow : OpenClaim := { program := "ytdddcofggemnkaa", sum := "168f7760456149447c394cb344cf5a863663d5bd6af514a1ed483e44696c9fae", func := "resolvent/resolventlaw16.PosTells", spec := "posTells", unfollowed := true, recurses := true, plainKeys := false, apart := false }
def PosTellsSaid : Prop := posTellsRow.holds Try.pinned (OpenSpec.ofChange posTellsSpec)

/-- ITS FALSE NEIGHBOUR: 'it returns false'. Refute it at one input. -/
def posTellsWrong : ChangeSpec := { name := "posTells", fn := fun _ => fun
  | [d] => { results := [.lit (.bool false)], args := [d] }
  | _ => none }
def PosTellsWrongFalsely : Prop := posTellsRow.holds Try.pinned (OpenSpec.ofChange posTellsWrong)

/-- 'resolventlaw16.PosLattice': WHATEVER THE INPUT: true; the input reads as it did. -/
def posLatticeSpec : ChangeSpec := { name := "posLattice", fn := fun _ => fun
  | [d1, d2] => { results := [.lit (.bool true)], args := [d1, d2] }
  | _ => none }
def posLatticeRow : OpenClaim := { program := "ytdddcofggemnkaa", sum := "168f7760456149447c394cb344cf5a863663d5bd6af514a1ed483e44696c9fae", func := "resolvent/resolventlaw16.PosLattice", spec := "posLattice", unfollowed := true, recurses := true, plainKeys := false, apart := false }
def PosLatticeSaid : Prop := posLatticeRow.holds Try.pinned (OpenSpec.ofChange posLatticeSpec)

/-- ITS FALSE NEIGHBOUR: 'it returns false'. Refute it at one input. -/
def posLatticeWrong : ChangeSpec := { name := "posLattice", fn := fun _ => fun
  | [d1, d2] => { results := [.lit (.bool false)], args := [d1, d2] }
  | _ => none }
def PosLatticeWrongFalsely : Prop := posLatticeRow.holds Try.pinned (OpenSpec.ofChange posLatticeWrong)

/-- 'resolventlaw16.PosIff': WHATEVER THE INPUT: true; the input reads as it did. -/
def posIffSpec : ChangeSpec := { name := "posIff", fn := fun _ => fun
  | [d1, d2, d3] => { results := [.lit (.bool true)], args := [d1, d2, d3] }
  | _ => none }
def posIffRow : OpenClaim := { program := "ytdddcofggemnkaa", sum := "168f7760456149447c394cb344cf5a863663d5bd6af514a1ed483e44696c9fae", func := "resolvent/resolventlaw16.PosIff", spec := "posIff", unfollowed := true, recurses := true, plainKeys := false, apart := false }
def PosIffSaid : Prop := posIffRow.holds Try.pinned (OpenSpec.ofChange posIffSpec)

/-- ITS FALSE NEIGHBOUR: 'it returns false'. Refute it at one input. -/
def posIffWrong : ChangeSpec := { name := "posIff", fn := fun _ => fun
  | [d1, d2, d3] => { results := [.lit (.bool false)], args := [d1, d2, d3] }
  | _ => none }
def PosIffWrongFalsely : Prop := posIffRow.holds Try.pinned (OpenSpec.ofChange posIffWrong)

/-- 'resolventlaw17.PairsRename': WHATEVER THE INPUT: true; the input reads as it did. -/
def pairsRenameSpec : ChangeSpec := { name := "pairsRename", fn := fun _ => fun
  | [d1, d2] => { results := [.lit (.bool true)], args := [d1, d2] }
  | _ => none }
def pairsRenameRow : OpenClaim := { program := "ytdddcofggemnkaa", sum := "168f7760456149447c394cb344cf5a863663d5bd6af514a1ed483e44696c9fae", func := "resolvent/resolventlaw17.PairsRename", spec := "pairsRename", unfollowed := true, recurses := true, plainKeys := false, apart := false }
def PairsRenameSaid : Prop := pairsRenameRow.holds Try.pinned (OpenSpec.ofChange pairsRenameSpec)

/-- ITS FALSE NEIGHBOUR: 'it returns false'. Refute it at one input. -/
def pairsRenameWrong : ChangeSpec := { name := "pairsRename", fn := fun _ => fun
  | [d1, d2] => { results := [.lit (.bool false)], args := [d1, d2] }
  | _ => none }
def PairsRenameWrongFalsely : Prop := pairsRenameRow.holds Try.pinned (OpenSpec.ofChange pairsRenameWrong)

/-- 'resolventlaw17.PairsTells': WHATEVER THE INPUT: true; the input reads as it did. -/
def pairsTellsSpec : ChangeSpec := { name := "pairsTells", fn := fun _ => fun
  | [d1, d2, d3] => { results := [.lit (.bool true)], args := [d1, d2, d3] }
  | _ => none }
def pairsTellsRow : OpenClaim := { program := "ytdddcofggemnkaa", sum := "168f7760456149447c394cb344cf5a863663d5bd6af514a1ed483e44696c9fae", func := "resolvent/resolventlaw17.PairsTells", spec := "pairsTells", unfollowed := true, recurses := true, plainKeys := false, apart := false }
def PairsTellsSaid : Prop := pairsTellsRow.holds Try.pinned (OpenSpec.ofChange pairsTellsSpec)

/-- ITS FALSE NEIGHBOUR: 'it returns false'. Refute it at one input. -/
def pairsTellsWrong : ChangeSpec := { name := "pairsTells", fn := fun _ => fun
  | [d1, d2, d3] => { results := [.lit (.bool false)], args := [d1, d2, d3] }
  | _ => none }
def PairsTellsWrongFalsely : Prop := pairsTellsRow.holds Try.pinned (OpenSpec.ofChange pairsTellsWrong)

/-- 'resolventlaw17.PairsGrow': WHATEVER THE INPUT: true; the input reads as it did. -/
def pairsGrowSpec : ChangeSpec := { name := "pairsGrow", fn := fun _ => fun
  | [d1, d2, d3, d4] => { results := [.lit (.bool true)], args := [d1, d2, d3, d4] }
  | _ => none }
def pairsGrowRow : OpenClaim := { program := "ytdddcofggemnkaa", sum := "168f7760456149447c394cb344cf5a863663d5bd6af514a1ed483e44696c9fae", func := "resolvent/resolventlaw17.PairsGrow", spec := "pairsGrow", unfollowed := true, recurses := true, plainKeys := false, apart := false }
def PairsGrowSaid : Prop := pairsGrowRow.holds Try.pinned (OpenSpec.ofChange pairsGrowSpec)

/-- ITS FALSE NEIGHBOUR: 'it returns false'. Refute it at one input. -/
def pairsGrowWrong : ChangeSpec := { name := "pairsGrow", fn := fun _ => fun
  | [d1, d2, d3, d4] => { results := [.lit (.bool false)], args := [d1, d2, d3, d4] }
  | _ => none }
def PairsGrowWrongFalsely : Prop := pairsGrowRow.holds Try.pinned (OpenSpec.ofChange pairsGrowWrong)

/- THE SECOND FORM. 'bulk': how many values and letters a reading holds, each counted each time it is reached (what is shared counts as often as it is met; a slice's spare places count too). A statement '..UptoSaid' is the law's where the arguments, and the package variables that the reading takes, are together of bulk at most 1048576: NARROWER than '..Said'. Prove '..Said' where nothing that the law and all that it calls make is longer than what came in: it says more and counts as full. Else prove '..UptoSaid'. A law counts once. -/
mutual
def uptoBulk {H : Type} : DataW H → Nat
  | .lit (.string bytes) => bytes.length + 1
  | .lit _ => 1
  | .nil => 1
  | .ptr d => uptoBulk d + 1
  | .slice elems spare => uptoBulkAll elems + uptoBulkAll spare + 1
  | .agg parts => uptoBulkAll parts + 1
  | .iface _ d => uptoBulk d + 1
  | .map entries => uptoBulkEntries entries + 1
  | .held _ => 1
def uptoBulkAll {H : Type} : List (DataW H) → Nat
  | [] => 0
  | d :: r => uptoBulk d + uptoBulkAll r
def uptoBulkEntries {H : Type} : List (Lit × DataW H) → Nat
  | [] => 0
  | x :: r => uptoBulkEntry x + uptoBulkEntries r
def uptoBulkEntry {H : Type} : Lit × DataW H → Nat
  | (.string bytes, d) => bytes.length + uptoBulk d + 1
  | (_, d) => uptoBulk d + 1
 end
def uptoSmall : (H : Type) → List (DataW H) → Bool := fun _ ds => decide (uptoBulkAll ds ≤ 1048576)
def OpenSpec.upto (s : _root_.Go.ChangeSpec) : _root_.Go.OpenSpec := { _root_.Go.OpenSpec.ofChange s with cond := some uptoSmall }

/-- 'resolventlaw16.PosFull', WHERE WHAT IT READS IS OF BULK AT MOST 1048576: true; the input reads as it did. -/
def posFullUptoRow : OpenClaim := { program := "ytdddcofggemnkaa", sum := "168f7760456149447c394cb344cf5a863663d5bd6af514a1ed483e44696c9fae", func := "resolvent/resolventlaw16.PosFull", spec := "posFull", unfollowed := true, recurses := true, plainKeys := false, apart := false, narrowed := true }
def PosFullUptoSaid : Prop := posFullUptoRow.holds Try.pinned (OpenSpec.upto posFullSpec)

/-- 'resolventlaw16.PosTells', WHERE WHAT IT READS IS OF BULK AT MOST 1048576: true; the input reads as it did. -/
def posTellsUptoRow : OpenClaim := { program := "ytdddcofggemnkaa", sum := "168f7760456149447c394cb344cf5a863663d5bd6af514a1ed483e44696c9fae", func := "resolvent/resolventlaw16.PosTells", spec := "posTells", unfollowed := true, recurses := true, plainKeys := false, apart := false, narrowed := true }
def PosTellsUptoSaid : Prop := posTellsUptoRow.holds Try.pinned (OpenSpec.upto posTellsSpec)

/-- 'resolventlaw16.PosLattice', WHERE WHAT IT READS IS OF BULK AT MOST 1048576: true; the input reads as it did. -/
def posLatticeUptoRow : OpenClaim := { program := "ytdddcofggemnkaa", sum := "168f7760456149447c394cb344cf5a863663d5bd6af514a1ed483e44696c9fae", func := "resolvent/resolventlaw16.PosLattice", spec := "posLattice", unfollowed := true, recurses := true, plainKeys := false, apart := false, narrowed := true }
def PosLatticeUptoSaid : Prop := posLatticeUptoRow.holds Try.pinned (OpenSpec.upto posLatticeSpec)

/-- 'resolventlaw16.PosIff', WHERE WHAT IT READS IS OF BULK AT MOST 1048576: true; the input reads as it did. -/
def posIffUptoRow : OpenClaim := { program := "ytdddcofggemnkaa", sum := "168f7760456149447c394cb344cf5a863663d5bd6af514a1ed483e44696c9fae", func := "resolvent/resolventlaw16.PosIff", spec := "posIff", unfollowed := true, recurses := true, plainKeys := false, apart := false, narrowed := true }
def PosIffUptoSaid : Prop := posIffUptoRow.holds Try.pinned (OpenSpec.upto posIffSpec)

/-- 'resolventlaw17.PairsRename', WHERE WHAT IT READS IS OF BULK AT MOST 1048576: true; the input reads as it did. -/
def pairsRenameUptoRow : OpenClaim := { program := "ytdddcofggemnkaa", sum := "168f7760456149447c394cb344cf5a863663d5bd6af514a1ed483e44696c9fae", func := "resolvent/resolventlaw17.PairsRename", spec := "pairsRename", unfollowed := true, recurses := true, plainKeys := false, apart := false, narrowed := true }
def PairsRenameUptoSaid : Prop := pairsRenameUptoRow.holds Try.pinned (OpenSpec.upto pairsRenameSpec)

/-- 'resolventlaw17.PairsTells', WHERE WHAT IT READS IS OF BULK AT MOST 1048576: true; the input reads as it did. -/
def pairsTellsUptoRow : OpenClaim := { program := "ytdddcofggemnkaa", sum := "168f7760456149447c394cb344cf5a863663d5bd6af514a1ed483e44696c9fae", func := "resolvent/resolventlaw17.PairsTells", spec := "pairsTells", unfollowed := true, recurses := true, plainKeys := false, apart := false, narrowed := true }
def PairsTellsUptoSaid : Prop := pairsTellsUptoRow.holds Try.pinned (OpenSpec.upto pairsTellsSpec)

/-- 'resolventlaw17.PairsGrow', WHERE WHAT IT READS IS OF BULK AT MOST 1048576: true; the input reads as it did. -/
def pairsGrowUptoRow : OpenClaim := { program := "ytdddcofggemnkaa", sum := "168f7760456149447c394cb344cf5a863663d5bd6af514a1ed483e44696c9fae", func := "resolvent/resolventlaw17.PairsGrow", spec := "pairsGrow", unfollowed := true, recurses := true, plainKeys := false, apart := false, narrowed := true }
def PairsGrowUptoSaid : Prop := pairsGrowUptoRow.holds Try.pinned (OpenSpec.upto pairsGrowSpec)

end Rows
end Go.Proofs.Ytdddcofggemnkaa
