
import Derived.Test.YtjkpoaijmbapiaaGreatDoorEV3m
set_option linter.all false
namespace Go.Proofs.E
set_option linter.all false
open Go Go.Am
def a10_0 : List AV := [x160, x71, x162]
def r10_0 : AV := (.tuple [(.agg [x32, (I 56), (I 6)]), (I 0)])
set_option maxRecDepth 1000000 in
theorem e10_0 : callD o2 ft 400 10 a10_0 ⟨m30, (some 5)⟩ = some (r10_0, ⟨m30, (some 5)⟩) := by kernel_rfl
def a42_0 : List AV := [x72]
def r42_0 : AV := (.tuple [x155, (I 0), (I 0)])
set_option maxRecDepth 1000000 in
theorem e42_0 : callD o2 ft 400 42 a42_0 ⟨[], none⟩ = some (r42_0, ⟨[], none⟩) := by kernel_rfl
def a42_6 : List AV := [x0]
def r42_6 : AV := (.tuple [x153, (I 0), (I 0)])
set_option maxRecDepth 1000000 in
theorem e42_6 : callD o2 ft 400 42 a42_6 ⟨[], none⟩ = some (r42_6, ⟨[], none⟩) := by kernel_rfl
def a42_1 : List AV := [x4]
def r42_1 : AV := (.tuple [(.agg [(.list .shared 6 [(.agg [(U 4), (S #[112]), (I 0), (.list .shared 4 [x9]), (.list .shared 0 []), (I 1)])]), (.list .shared 0 [])]), (I 0), (I 0)])
set_option maxRecDepth 1000000 in
theorem e42_1 : callD o2 ft 400 42 a42_1 ⟨[], none⟩ = some (r42_1, ⟨[], none⟩) := by kernel_rfl
def a42_2 : List AV := [x92]
def r42_2 : AV := (.tuple [x128, (I 0), (I 0)])
set_option maxRecDepth 1000000 in
theorem e42_2 : callD o2 ft 400 42 a42_2 ⟨[], none⟩ = some (r42_2, ⟨[], none⟩) := by kernel_rfl
def a42_4 : List AV := [x34]
def r42_4 : AV := (.tuple [x122, (I 0), (I 0)])
set_option maxRecDepth 1000000 in
theorem e42_4 : callD o2 ft 400 42 a42_4 ⟨[], none⟩ = some (r42_4, ⟨[], none⟩) := by kernel_rfl
def a42_7 : List AV := [x3]
def r42_7 : AV := (.tuple [(.agg [(.list .shared 6 [(.agg [(U 4), (S #[97, 112, 112]), (I 0), x18, (.list .shared 0 []), (I 2)])]), (.list .shared 0 [])]), (I 0), (I 0)])
set_option maxRecDepth 1000000 in
theorem e42_7 : callD o2 ft 400 42 a42_7 ⟨[], none⟩ = some (r42_7, ⟨[], none⟩) := by kernel_rfl
end Go.Proofs.E
