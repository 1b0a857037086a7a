
import Derived.Test.YtjkpoaijmbapiaaGreatDoorEV4
set_option linter.all false
namespace Go.Proofs.E
set_option linter.all false
open Go Go.Am
def a12_3 : List AV := [x0, x163, x162, (I 300)]
def r12_3 : AV := (.tuple [(.agg [x32, (I 56), (I 6)]), x32, (I 22), (.bool true)])
set_option maxRecDepth 1000000 in
theorem e12_3 : callD o4 ft 400 12 a12_3 ⟨[], none⟩ = some (r12_3, ⟨[], none⟩) := by kernel_rfl
def a12_0 : List AV := [x72, (S #[112, 40, 88, 41]), x164, (I 100)]
def r12_0 : AV := (.tuple [(.agg [x55, (I 9), (I 1)]), x55, (I 9), (.bool true)])
set_option maxRecDepth 1000000 in
theorem e12_0 : callD o4 ft 400 12 a12_0 ⟨[], none⟩ = some (r12_0, ⟨[], none⟩) := by kernel_rfl
def a12_2 : List AV := [x34, (S #[112]), (.agg [(I 10), (I 65536), (I 65536), (I 4096), (I 4096)]), (I 10)]
def r12_2 : AV := (.tuple [(.agg [(.list .shared 7 [x158]), (I 10), (I 0)]), (.list .shared 7 [x158]), (I 5), (.bool true)])
set_option maxRecDepth 1000000 in
theorem e12_2 : callD o4 ft 400 12 a12_2 ⟨[], none⟩ = some (r12_2, ⟨[], none⟩) := by kernel_rfl
def a12_1 : List AV := [x92, (S #[112, 40, 65, 44, 65, 41]), x164, (I 100)]
def r12_1 : AV := (.tuple [(.agg [(.list .shared 7 [x31]), (I 3), (I 0)]), (.list .shared 7 [x31]), (I 6), (.bool true)])
set_option maxRecDepth 1000000 in
theorem e12_1 : callD o4 ft 400 12 a12_1 ⟨[], none⟩ = some (r12_1, ⟨[], none⟩) := by kernel_rfl
end Go.Proofs.E
