/- What is told ahead of the library's functions. -/
import Derived.Test.YtjkpoaijmbapiaaGreatDoorEFO
import Derived.Test.YtjkpoaijmbapiaaGreatDoorAmD
import Derived.Test.YtjkpoaijmbapiaaGreatDoorAmClone
import Derived.Test.YtjkpoaijmbapiaaGreatDoorShelfE
set_option linter.all false
namespace Go.Proofs.E
set_option linter.all false
open Go Go.Am Go.RowKit

noncomputable def o0 : Orc := Orc.put (Orc.put (Orc.put (Orc.put (Orc.put (fun _ _ _ => none) 9 (cloneL 4 56)) 142 (cloneL 3 32)) 235 (cloneR 4 40)) 237 (cloneR 1 8)) 291 fieldsO
theorem n0 : ∀ f, ft.get f = none → ∀ args M, o0 f args M = none :=
  orcs_put_none (orcs_put_none (orcs_put_none (orcs_put_none (orcs_put_none (fun _ _ _ _ => rfl) (by kernel_rfl)) (by kernel_rfl)) (by kernel_rfl)) (by kernel_rfl)) (by kernel_rfl)
abbrev tabs : World → Prop := fun w => Lib.TabIs Tryz.prog w "strings.asciiSpace" .u8 Lib.asciiSpaceTab
theorem mixed : Tryz.prog.follows .mixedOrders = true := by kernel_rfl
def infoB (P : Program) (t : TypeId) (k b : Nat) : Bool :=
  match P.info? t with
  | some i => match i.zero with
    | some z => i.size == k && i.bytes == b && z.cells.size == k
    | none => false
  | none => false
theorem info_of {t : TypeId} {k b : Nat} (h : infoB Tryz.prog t k b = true) : ∃ i z, Tryz.prog.info? t = some i ∧ i.zero = some z ∧ i.size = k ∧ i.bytes = b ∧ z.cells.size = k := by
  unfold infoB at h
  split at h
  · rename_i i hi
    split at h
    · rename_i z hz
      simp only [Bool.and_eq_true, beq_iff_eq] at h
      exact ⟨i, z, hi, hz, h.1.1, h.1.2, h.2⟩
    · cases h
  · cases h
theorem ok0 : OrcsOk Tryz.prog tabs o0 ft := by
  refine orcs_put (orcs_put (orcs_put (orcs_put (orcs_put ?_ ?_) ?_) ?_) ?_) ?_
  · intro f fn h
    obtain ⟨g, hg, rfl⟩ := tab_some h
    exact orcSound_none fun _ _ => rfl
  · intro fn _ _
    obtain ⟨i, z, h1, h2, h3, h4, h5⟩ := info_of (t := 28) (k := 4) (b := 56) (by kernel_rfl)
    exact cloneL_sound rfl (by decide) fun b off n c news w g1 g2 g3 g4 g5 => Tryz.slices_Clone_f9 i z 4 56 h1 h2 h3 h4 h5 (by decide) (fun w => Am.run_sizeOf (by simp [szOf, h1, h3])) b off n c news w g1 g2 g3 g4 g5
  · intro fn _ _
    obtain ⟨i, z, h1, h2, h3, h4, h5⟩ := info_of (t := 67) (k := 3) (b := 32) (by kernel_rfl)
    exact cloneL_sound rfl (by decide) fun b off n c news w g1 g2 g3 g4 g5 => Tryz.slices_Clone_f142 i z 3 32 h1 h2 h3 h4 h5 (by decide) (fun w => Am.run_sizeOf (by simp [szOf, h1, h3])) b off n c news w g1 g2 g3 g4 g5
  · intro fn _ _
    obtain ⟨i, z, h1, h2, h3, h4, h5⟩ := info_of (t := 190) (k := 4) (b := 40) (by kernel_rfl)
    exact cloneR_sound rfl (by decide) (by decide) fun b off n c news w g1 g2 g3 g4 g5 => Tryz.slices_Clone_f235 i z 4 40 h1 h2 h3 h4 h5 (by decide) (fun w => Am.run_sizeOf (by simp [szOf, h1, h3])) b off n c news w g1 g2 g3 g4 g5
  · intro fn _ _
    obtain ⟨i, z, h1, h2, h3, h4, h5⟩ := info_of (t := 3) (k := 1) (b := 8) (by kernel_rfl)
    exact cloneR_sound rfl (by decide) (by decide) fun b off n c news w g1 g2 g3 g4 g5 => Tryz.slices_Clone_f237 i z 1 8 h1 h2 h3 h4 h5 (by decide) (fun w => Am.run_sizeOf (by simp [szOf, h1, h3])) b off n c news w g1 g2 g3 g4 g5
  · intro fn _ _
    exact fieldsO_sound (t := 9) rfl fun b w ht h1 h2 => Tryz.strings_Fields b w h1 h2 ht
end Go.Proofs.E
