/- What the library does to rows of pairs, at this program: the answers told ahead, and that they are so. -/
import Derived.Test.YtdddcofggemnkaaAmPair
import Derived.Test.YtdddcofggemnkaaShelf
import Derived.Shelf.Spec.SlicesGrow
import Derived.Ground.Names8Prog
import Derived.Test.YtdddcofggemnkaaProg
namespace Go.Am
set_option linter.all false
open Go

def sortFO := sortPO Go.Proofs.sortF 64

theorem sortFO_sound {okc : Nat → Code → C → Prop} {fn : IFn} (ho : fn.orc = sortFO) : OrcSound Go.Proofs.Try.prog okc 63 fn :=
  sortPO_sound ho Go.Proofs.sortF_len Go.Proofs.Try.sortFunc63_flat Go.Proofs.Try.sortFunc63_none
theorem cloneP_sound {okc : Nat → Code → C → Prop} {fn : IFn} (ho : fn.orc = cloneP) : OrcSound Go.Proofs.Try.prog okc 69 fn :=
  cloneO_sound ho (by decide) (by decide) Go.Proofs.Try.clone69 Go.Proofs.Try.clone69_zero Go.Proofs.Try.slices_Clone_nil_f69
theorem cloneI_sound {okc : Nat → Code → C → Prop} {fn : IFn} (ho : fn.orc = cloneI) : OrcSound Go.Proofs.Try.prog okc 72 fn :=
  cloneO_sound ho (by decide) (by decide) Go.Proofs.Try.clone72 Go.Proofs.Try.clone72_zero Go.Proofs.Try.slices_Clone_nil_f72
end Go.Am
namespace Go.Proofs
set_option linter.all false
open Go.Shelf
def Try.growP_ren : Go.Shelf.Ren := ⟨fun | 4 => 89 | n => n, fun | 22 => 49 | 25 => 52 | 3 => 3 | 4 => 4 | 9 => 9 | 20 => 20 | 0 => 0 | n => n, fun | n => n⟩
theorem Try.growP : Go.Proofs.Lays8.n4 Try.prog Try.growP_ren := {
  mixed := by kernel_rfl
  f4 := ⟨Try.f89.name, by decide, Try.func89.trans (congrArg some (by kernel_rfl))⟩
  t0 := Try.underlying0
  a0 := Try.isAgg0
  z0 := Try.sizeOf0
  v0 := Try.zeroValue0
  t3 := Try.underlying3
  a3 := Try.isAgg3
  z3 := Try.sizeOf3
  v3 := Try.zeroValue3
  t4 := Try.underlying4
  a4 := Try.isAgg4
  z4 := Try.sizeOf4
  v4 := Try.zeroValue4
  t9 := Try.underlying9
  a9 := Try.isAgg9
  z9 := Try.sizeOf9
  v9 := Try.zeroValue9
  t20 := Try.underlying20
  a20 := Try.isAgg20
  z20 := Try.sizeOf20
  v20 := Try.zeroValue20
  t22 := Try.underlying49
  a22 := Try.isAgg49
  z22 := Try.sizeOf49
  v22 := Try.zeroValue49 }
open Go.RowKit in
theorem Try.growP_mixed : Try.prog.follows .mixedOrders = true := Try.growP.mixed
end Go.Proofs
namespace Go.Proofs
set_option linter.all false
open Go.RowKit
theorem Try.grow89 (base : Option Addr) (n : Nat) (w : World) (h0 : 0 < n) (h1 : n * 16 ≤ 140737488355328) (_ : n ≤ 4611686018427387904) : Calls Try.prog 89 #[.slice base 0 0, .int .i64 n] w fun e' w' =>
      ∃ G c, e' = .returned (.slice (some ⟨w.heap.size, 0, none⟩) 0 G) ∧ c.size = G * 2 ∧ w'.heap[w.heap.size]? = some (.cells c 52 (0, 0)) ∧ Below w.heap.size w w' := by
  obtain ⟨i, z, k1, k2, k3, k4, k5⟩ := info_of (P := Try.prog) (t := 52) (a := 2) (b := 16) (c := 2) (by kernel_rfl)
  refine (Any8.slices_Grow_grow Try.growP i z k1 k2 (by omega) base 0 0 n [] w (Nat.le_refl _) (by omega) (by rw [k4]; omega) (by omega) (by simp) (fun _ => rfl) (fun _ _ _ _ h => by simp at h)).mono ?_
  rintro e' w' ⟨rfl, rfl⟩
  have hG : 0 + n ≤ grownCap w (0 + n) 0 (Try.growP_ren.t 25) := grownCap_ge w _ _ _
  refine ⟨_, _, rfl, ?_, Array.getElem?_push_size, ((Below.refl _ w).drew).alloc (Nat.le_refl _) _⟩
  rw [Array.size_append, Array.size_append, size_zeroCells, size_zeroCells, k5]
  show 0 + (0 + n - 0) * 2 + (grownCap w (0 + n) 0 (Try.growP_ren.t 25) - (0 + n)) * 2 = grownCap w (0 + n) 0 (Try.growP_ren.t 25) * 2
  omega
theorem Try.grow89_zero (base : Option Addr) (w : World) : Calls Try.prog 89 #[.slice base 0 0, .int .i64 0] w fun e w' => e = .returned (.slice base 0 0) ∧ w' = w :=
  Any8.slices_Grow_room Try.growP base 0 0 0 w (Nat.le_refl _) (by decide) (by decide) (Nat.le_refl _)
end Go.Proofs
namespace Go.Am
def growP : List AV → Mem → Option (AV × Mem) := growO 2 16
theorem growP_sound {okc : Nat → Code → C → Prop} {fn : IFn} (ho : fn.orc = growP) : OrcSound Go.Proofs.Try.prog okc 89 fn :=
  growO_sound ho (by decide) Go.Proofs.Try.grow89 Go.Proofs.Try.grow89_zero
end Go.Am
