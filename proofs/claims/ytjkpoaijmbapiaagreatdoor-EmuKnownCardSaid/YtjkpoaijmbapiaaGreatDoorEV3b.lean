
import Derived.Test.YtjkpoaijmbapiaaGreatDoorEV3m
set_option linter.all false
namespace Go.Proofs.E
set_option linter.all false
open Go Go.Am
def a49_2 : List AV := [(.ptr 8 0 0)]
def r49_2 : AV := (.bool true)
set_option maxRecDepth 1000000 in
theorem e49_2 : callD o2 ft 400 49 a49_2 ⟨m23, (some 2)⟩ = some (r49_2, ⟨m24, (some 2)⟩) := by kernel_rfl
def a45_1 : List AV := [x127]
def r45_1 : AV := (.tuple [(I 0), (I 0)])
set_option maxRecDepth 1000000 in
theorem e45_1 : callD o2 ft 400 45 a45_1 ⟨[], none⟩ = some (r45_1, ⟨[], none⟩) := by kernel_rfl
end Go.Proofs.E
set_option linter.all false
namespace Go.Proofs.E
set_option linter.all false
open Go Go.Am
def a49_0 : List AV := [(.ptr 8 0 0)]
def r49_0 : AV := (.bool true)
set_option maxRecDepth 1000000 in
theorem e49_0 : callD o2 ft 400 49 a49_0 ⟨m20, (some 2)⟩ = some (r49_0, ⟨m21, (some 2)⟩) := by kernel_rfl
def a45_2 : List AV := [x122]
def r45_2 : AV := (.tuple [(I 0), (I 0)])
set_option maxRecDepth 1000000 in
theorem e45_2 : callD o2 ft 400 45 a45_2 ⟨[], none⟩ = some (r45_2, ⟨[], none⟩) := by kernel_rfl
def a42_3 : List AV := [x74]
def r42_3 : AV := (.tuple [(.agg [(.list .shared 6 [(.agg [(U 4), (S #[112]), (I 0), x60, (.list .shared 0 []), (I 1)])]), (.list .shared 0 [])]), (I 0), (I 0)])
set_option maxRecDepth 1000000 in
theorem e42_3 : callD o2 ft 400 42 a42_3 ⟨[], none⟩ = some (r42_3, ⟨[], none⟩) := by kernel_rfl
def a42_5 : List AV := [(S #[112, 10, 46])]
def r42_5 : AV := (.tuple [(.agg [(.list .shared 6 [(.agg [(U 3), (S #[112]), (I 0), (.list .shared 0 []), (.list .shared 0 []), (I 0)])]), (.list .shared 0 [])]), (I 0), (I 0)])
set_option maxRecDepth 1000000 in
theorem e42_5 : callD o2 ft 400 42 a42_5 ⟨[], none⟩ = some (r42_5, ⟨[], none⟩) := by kernel_rfl
end Go.Proofs.E
set_option linter.all false
namespace Go.Proofs.E
set_option linter.all false
open Go Go.Am
def a49_1 : List AV := [(.ptr 8 0 0)]
def r49_1 : AV := (.bool true)
set_option maxRecDepth 1000000 in
theorem e49_1 : callD o2 ft 400 49 a49_1 ⟨m22, (some 2)⟩ = some (r49_1, ⟨m23, (some 2)⟩) := by kernel_rfl
def a45_0 : List AV := [x121]
def r45_0 : AV := (.tuple [(I 0), (I 0)])
set_option maxRecDepth 1000000 in
theorem e45_0 : callD o2 ft 400 45 a45_0 ⟨[], none⟩ = some (r45_0, ⟨[], none⟩) := by kernel_rfl
end Go.Proofs.E
