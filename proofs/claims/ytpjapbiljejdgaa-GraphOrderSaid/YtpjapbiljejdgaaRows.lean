/-
  No cell of these rows narrows 'for every input' (looked for: loops, veiled, ifaces, maps, wideKeys, modest, calm, conditions, laid).
  DERIVED. THE GIVEN ROWS OF THIS SEAT. 4 by the template 'for every input the law returns true; each argument reads behind the call as it read before'; 0 by the template 'total and deterministic' (their statements: YtpjapbiljejdgaaTotals.lean).
  GIVEN WITH THE SEED: the statements are not yours to turn. If you find one false, say at which input.
  Laid BY PROGRAM, IN A SANDBOX (cutbox-rows.mjs): the forced cells as the released guide's own fill.sh prints them over the translation 1f0320eec1d9246f… (all of the seat's roots in one cut). By AI agents, Wed Nov 11 2026. No macro, syntax, notation, axiom, sorry.
-/
import Derived.Test.YtpjapbiljejdgaaChecked
import GoSem.Claim
import GoSem.ClaimJoined
import GoSem.ClaimMapViews
import Derived.JoinedTies
import Derived.KernelRfl
namespace Go.Proofs.Ytpjapbiljejdgaa
/- THE CELL 'sum', in the pinned program and in every row, IS THE sha256 OF THE DUMP (.gsa) THAT YtpjapbiljejdgaaProg.lean LOADS. Nothing in Lean hashes anything: it is a label: what it is worth is what the hold of that sum in a sandbox is worth. -/
noncomputable def Try.pinned : Pinned := { name := "ytpjapbiljejdgaa", sum := "1f0320eec1d9246f127aebb28783a2540d5ff2ecf88ff0a3aa7ef7a0dd5f7906", checked := Try.checked }
namespace Rows
def none {H : Type} : Left H := { results := [], args := [] }

/-- 'resolventlaw11.GraphComponents': WHATEVER THE INPUT: true; the input reads as it did. -/
def graphComponentsSpec : ChangeSpec := { name := "graphComponents", fn := fun _ => fun
  | [d] => { results := [.lit (.bool true)], args := [d] }
  | _ => none }
def graphComponentsRow : OpenClaim := { program := "ytpjapbiljejdgaa", sum := "1f0320eec1d9246f127aebb28783a2540d5ff2ecf88ff0a3aa7ef7a0dd5f7906", func := "resolvent/resolventlaw11.GraphComponents", spec := "graphComponents", unfollowed := true, recurses := true, plainKeys := false, apart := false }
def GraphComponentsSaid : Prop := graphComponentsRow.holds Try.pinned (OpenSpec.ofChange graphComponentsSpec)

/-- ITS FALSE NEIGHBOUR: 'it returns false'. Refute it at one input. -/
def graphComponentsWrong : ChangeSpec := { name := "graphComponents", fn := fun _ => fun
  | [d] => { results := [.lit (.bool false)], args := [d] }
  | _ => none }
def GraphComponentsWrongFalsely : Prop := graphComponentsRow.holds Try.pinned (OpenSpec.ofChange graphComponentsWrong)

/-- 'resolventlaw11.GraphOrder': WHATEVER THE INPUT: true; the input reads as it did. -/
def graphOrderSpec : ChangeSpec := { name := "graphOrder", fn := fun _ => fun
  | [d] => { results := [.lit (.bool true)], args := [d] }
  | _ => none }
def graphOrderRow : OpenClaim := { program := "ytpjapbiljejdgaa", sum := "1f0320eec1d9246f127aebb28783a2540d5ff2ecf88ff0a3aa7ef7a0dd5f7906", func := "resolvent/resolventlaw11.GraphOrder", spec := "graphOrder", unfollowed := true, recurses := true, plainKeys := false, apart := false }
def GraphOrderSaid : Prop := graphOrderRow.holds Try.pinned (OpenSpec.ofChange graphOrderSpec)

/-- ITS FALSE NEIGHBOUR: 'it returns false'. Refute it at one input. -/
def graphOrderWrong : ChangeSpec := { name := "graphOrder", fn := fun _ => fun
  | [d] => { results := [.lit (.bool false)], args := [d] }
  | _ => none }
def GraphOrderWrongFalsely : Prop := graphOrderRow.holds Try.pinned (OpenSpec.ofChange graphOrderWrong)

/-- 'resolventlaw16.PosFull': WHATEVER THE INPUT: true; the input reads as it did. -/
def posFullSpec : ChangeSpec := { name := "posFull", fn := fun _ => fun
  | [] => { results := [.lit (.bool true)], args := [] }
  | _ => none }
def posFullRow : OpenClaim := { program := "ytpjapbiljejdgaa", sum := "1f0320eec1d9246f127aebb28783a2540d5ff2ecf88ff0a3aa7ef7a0dd5f7906", func := "resolvent/resolventlaw16.PosFull", spec := "posFull", unfollowed := true, recurses := true, plainKeys := false, apart := false }
def PosFullSaid : Prop := posFullRow.holds Try.pinned (OpenSpec.ofChange posFullSpec)

/-- ITS FALSE NEIGHBOUR: 'it returns false'. Refute it at one input. -/
def posFullWrong : ChangeSpec := { name := "posFull", fn := fun _ => fun
  | [] => { results := [.lit (.bool false)], args := [] }
  | _ => none }
def PosFullWrongFalsely : Prop := posFullRow.holds Try.pinned (OpenSpec.ofChange posFullWrong)

/-- 'resolventlaw11.GraphTexts': WHATEVER THE INPUT: true; the input reads as it did. -/
def graphTextsSpec : ChangeSpec := { name := "graphTexts", fn := fun _ => fun
  | [d] => { results := [.lit (.bool true)], args := [d] }
  | _ => none }
def graphTextsRow : OpenClaim := { program := "ytpjapbiljejdgaa", sum := "1f0320eec1d9246f127aebb28783a2540d5ff2ecf88ff0a3aa7ef7a0dd5f7906", func := "resolvent/resolventlaw11.GraphTexts", spec := "graphTexts", unfollowed := true, recurses := true, plainKeys := false, apart := false }
def GraphTextsSaid : Prop := graphTextsRow.holds Try.pinned (OpenSpec.ofChange graphTextsSpec)

/-- ITS FALSE NEIGHBOUR: 'it returns false'. Refute it at one input. -/
def graphTextsWrong : ChangeSpec := { name := "graphTexts", fn := fun _ => fun
  | [d] => { results := [.lit (.bool false)], args := [d] }
  | _ => none }
def GraphTextsWrongFalsely : Prop := graphTextsRow.holds Try.pinned (OpenSpec.ofChange graphTextsWrong)

/- THE SECOND FORM. 'bulk': how many values and letters a reading holds, each counted each time it is reached (what is shared counts as often as it is met; a slice's spare places count too). A statement '..UptoSaid' is the law's where the arguments, and the package variables that the reading takes, are together of bulk at most 1048576: NARROWER than '..Said'. Prove '..Said' where nothing that the law and all that it calls make is longer than what came in: it says more and counts as full. Else prove '..UptoSaid'. A law counts once. -/
mutual
def uptoBulk {H : Type} : DataW H → Nat
  | .lit (.string bytes) => bytes.length + 1
  | .lit _ => 1
  | .nil => 1
  | .ptr d => uptoBulk d + 1
  | .slice elems spare => uptoBulkAll elems + uptoBulkAll spare + 1
  | .agg parts => uptoBulkAll parts + 1
  | .iface _ d => uptoBulk d + 1
  | .map entries => uptoBulkEntries entries + 1
  | .held _ => 1
def uptoBulkAll {H : Type} : List (DataW H) → Nat
  | [] => 0
  | d :: r => uptoBulk d + uptoBulkAll r
def uptoBulkEntries {H : Type} : List (Lit × DataW H) → Nat
  | [] => 0
  | x :: r => uptoBulkEntry x + uptoBulkEntries r
def uptoBulkEntry {H : Type} : Lit × DataW H → Nat
  | (.string bytes, d) => bytes.length + uptoBulk d + 1
  | (_, d) => uptoBulk d + 1
 end
def uptoSmall : (H : Type) → List (DataW H) → Bool := fun _ ds => decide (uptoBulkAll ds ≤ 1048576)
def OpenSpec.upto (s : _root_.Go.ChangeSpec) : _root_.Go.OpenSpec := { _root_.Go.OpenSpec.ofChange s with cond := some uptoSmall }

/-- 'resolventlaw11.GraphComponents', WHERE WHAT IT READS IS OF BULK AT MOST 1048576: true; the input reads as it did. -/
def graphComponentsUptoRow : OpenClaim := { program := "ytpjapbiljejdgaa", sum := "1f0320eec1d9246f127aebb28783a2540d5ff2ecf88ff0a3aa7ef7a0dd5f7906", func := "resolvent/resolventlaw11.GraphComponents", spec := "graphComponents", unfollowed := true, recurses := true, plainKeys := false, apart := false, narrowed := true }
def GraphComponentsUptoSaid : Prop := graphComponentsUptoRow.holds Try.pinned (OpenSpec.upto graphComponentsSpec)

/-- 'resolventlaw11.GraphOrder', WHERE WHAT IT READS IS OF BULK AT MOST 1048576: true; the input reads as it did. -/
def graphOrderUptoRow : OpenClaim := { program := "ytpjapbiljejdgaa", sum := "1f0320eec1d9246f127aebb28783a2540d5ff2ecf88ff0a3aa7ef7a0dd5f7906", func := "resolvent/resolventlaw11.GraphOrder", spec := "graphOrder", unfollowed := true, recurses := true, plainKeys := false, apart := false, narrowed := true }
def GraphOrderUptoSaid : Prop := graphOrderUptoRow.holds Try.pinned (OpenSpec.upto graphOrderSpec)

/-- 'resolventlaw16.PosFull', WHERE WHAT IT READS IS OF BULK AT MOST 1048576: true; the input reads as it did. -/
def posFullUptoRow : OpenClaim := { program := "ytpjapbiljejdgaa", sum := "1f0320eec1d9246f127aebb28783a2540d5ff2ecf88ff0a3aa7ef7a0dd5f7906", func := "resolvent/resolventlaw16.PosFull", spec := "posFull", unfollowed := true, recurses := true, plainKeys := false, apart := false, narrowed := true }
def PosFullUptoSaid : Prop := posFullUptoRow.holds Try.pinned (OpenSpec.upto posFullSpec)

/-- 'resolventlaw11.GraphTexts', WHERE WHAT IT READS IS OF BULK AT MOST 1048576: true; the input reads as it did. -/
def graphTextsUptoRow : OpenClaim := { program := "ytpjapbiljejdgaa", sum := "1f0320eec1d9246f127aebb28783a2540d5ff2ecf88ff0a3aa7ef7a0dd5f7906", func := "resolvent/resolventlaw11.GraphTexts", spec := "graphTexts", unfollowed := true, recurses := true, plainKeys := false, apart := false, narrowed := true }
def GraphTextsUptoSaid : Prop := graphTextsUptoRow.holds Try.pinned (OpenSpec.upto graphTextsSpec)

end Rows
end Go.Proofs.Ytpjapbiljejdgaa
