
import Derived.Test.YtjkpoaijmbapiaaGreatDoorEVX
set_option linter.all false
namespace Go.Proofs.E
set_option linter.all false
open Go Go.Am
def a166_7 : List AV := [x3]
def r166_7 : AV := (.tuple [(.list .shared 5 [x1, x2, (.agg [(U 3), (S #[88]), (I 0), (I 4), (.bool false)]), (.agg [(U 5), (S #[44]), (I 0), (I 5), (.bool false)]), (.agg [(U 3), (S #[89]), (I 0), (I 6), (.bool false)]), (.agg [(U 5), (S #[44]), (I 0), (I 7), (.bool false)]), (.agg [(U 5), (S #[91]), (I 0), (I 8), (.bool false)]), (.agg [(U 4), (S #[]), (I 1), (I 9), (.bool false)]), (.agg [(U 5), (S #[44]), (I 0), (I 10), (.bool false)]), (.agg [(U 4), (S #[]), (I 2), (I 11), (.bool false)]), (.agg [(U 5), (S #[93]), (I 0), (I 12), (.bool false)]), (.agg [(U 5), (S #[41]), (I 0), (I 13), (.bool false)]), (.agg [(U 6), (S #[]), (I 0), (I 15), (.bool false)]), (.agg [(U 7), (S #[]), (I 0), (I 16), (.bool false)])]), (I 0), (I 0)])
set_option maxRecDepth 1000000 in
theorem e166_7 : callD o0 ft 400 166 a166_7 ⟨[], none⟩ = some (r166_7, ⟨[], none⟩) := by kernel_rfl
def a166_1 : List AV := [x4]
def r166_1 : AV := (.tuple [(.list .shared 5 [x5, x6, x7, x8, (.agg [(U 6), (S #[]), (I 0), (I 5), (.bool false)]), (.agg [(U 7), (S #[]), (I 0), (I 6), (.bool false)])]), (I 0), (I 0)])
set_option maxRecDepth 1000000 in
theorem e166_1 : callD o0 ft 400 166 a166_1 ⟨[], none⟩ = some (r166_1, ⟨[], none⟩) := by kernel_rfl
def a114_7 : List AV := [x3]
def r114_7 : AV := (.tuple [(.list .shared 5 [(.agg [(U 4), (S #[97, 112, 112]), (I 0), x18, (.list .shared 1 [(S #[88]), (S #[89])])])]), (I 0), (I 0)])
set_option maxRecDepth 1000000 in
theorem e114_7 : callD o0 ft 400 114 a114_7 ⟨[], none⟩ = some (r114_7, ⟨[], none⟩) := by kernel_rfl
def a13_1 : List AV := [x32, x32]
def r13_1 : AV := (.bool true)
set_option maxRecDepth 1000000 in
theorem e13_1 : callD o0 ft 400 13 a13_1 ⟨[], none⟩ = some (r13_1, ⟨[], none⟩) := by kernel_rfl
def a166_5 : List AV := [(S #[112, 10, 46])]
def r166_5 : AV := (.tuple [(.list .shared 5 [x33, (.agg [(U 6), (S #[]), (I 0), (I 2), (.bool false)]), (.agg [(U 7), (S #[]), (I 0), (I 3), (.bool false)])]), (I 0), (I 0)])
set_option maxRecDepth 1000000 in
theorem e166_5 : callD o0 ft 400 166 a166_5 ⟨[], none⟩ = some (r166_5, ⟨[], none⟩) := by kernel_rfl
def a114_4 : List AV := [x34]
def r114_4 : AV := (.tuple [(.list .shared 5 [(.agg [(U 4), (S #[58, 45]), (I 0), x36, (.list .shared 0 [])])]), (I 0), (I 0)])
set_option maxRecDepth 1000000 in
theorem e114_4 : callD o0 ft 400 114 a114_4 ⟨[], none⟩ = some (r114_4, ⟨[], none⟩) := by kernel_rfl
def a247_5 : List AV := [x44, (I 3)]
def r247_5 : AV := (.agg [(U 4), (S #[97, 112, 112]), (I 0), (.list .shared 4 [x47, x48, (.agg [(U 4), (S #[46]), (I 0), (.list .shared 4 [x45, x49])])])])
set_option maxRecDepth 1000000 in
theorem e247_5 : callD o0 ft 400 247 a247_5 ⟨[], none⟩ = some (r247_5, ⟨[], none⟩) := by kernel_rfl
def a117_18 : List AV := [x50]
def r117_18 : AV := (.list .shared 1 [(I 1), (I 2), (I 3)])
set_option maxRecDepth 1000000 in
theorem e117_18 : callD o0 ft 400 117 a117_18 ⟨[], none⟩ = some (r117_18, ⟨[], none⟩) := by kernel_rfl
def a13_0 : List AV := [x55, x55]
def r13_0 : AV := (.bool true)
set_option maxRecDepth 1000000 in
theorem e13_0 : callD o0 ft 400 13 a13_0 ⟨[], none⟩ = some (r13_0, ⟨[], none⟩) := by kernel_rfl
def a136_10 : List AV := [(.list .shared 4 [x56, x15])]
def r136_10 : AV := x27
set_option maxRecDepth 1000000 in
theorem e136_10 : callD o0 ft 400 136 a136_10 ⟨[], none⟩ = some (r136_10, ⟨[], none⟩) := by kernel_rfl
def a136_12 : List AV := [(.list .shared 4 [x12, (.agg [(U 1), (S #[]), (I 9), (.list .shared 0 [])]), x10, x13])]
def r136_12 : AV := x59
set_option maxRecDepth 1000000 in
theorem e136_12 : callD o0 ft 400 136 a136_12 ⟨[], none⟩ = some (r136_12, ⟨[], none⟩) := by kernel_rfl
def a117_16 : List AV := [x41]
def r117_16 : AV := (.list .shared 1 [(I 0), (I 3)])
set_option maxRecDepth 1000000 in
theorem e117_16 : callD o0 ft 400 117 a117_16 ⟨[], none⟩ = some (r117_16, ⟨[], none⟩) := by kernel_rfl
def a117_9 : List AV := [x60]
def r117_9 : AV := (.list .shared 1 [(I 0)])
set_option maxRecDepth 1000000 in
theorem e117_9 : callD o0 ft 400 117 a117_9 ⟨[], none⟩ = some (r117_9, ⟨[], none⟩) := by kernel_rfl
def a136_13 : List AV := [(.list .shared 4 [x61, x10, x13])]
def r136_13 : AV := x62
set_option maxRecDepth 1000000 in
theorem e136_13 : callD o0 ft 400 136 a136_13 ⟨[], none⟩ = some (r136_13, ⟨[], none⟩) := by kernel_rfl
def a247_4 : List AV := [x64, (I 2)]
def r247_4 : AV := (.agg [(U 4), (S #[97, 112, 112]), (I 0), (.list .shared 4 [x19, x65, x65])])
set_option maxRecDepth 1000000 in
theorem e247_4 : callD o0 ft 400 247 a247_4 ⟨[], none⟩ = some (r247_4, ⟨[], none⟩) := by kernel_rfl
def a17_0 : List AV := [(.list .shared 4 [x66])]
def r17_0 : AV := (.list .shared 1 [(I 0)])
set_option maxRecDepth 1000000 in
theorem e17_0 : callD o0 ft 400 17 a17_0 ⟨[], none⟩ = some (r17_0, ⟨[], none⟩) := by kernel_rfl
def a17_6 : List AV := [x36]
def r17_6 : AV := (.list .shared 0 [])
set_option maxRecDepth 1000000 in
theorem e17_6 : callD o0 ft 400 17 a17_6 ⟨[], none⟩ = some (r17_6, ⟨[], none⟩) := by kernel_rfl
def a136_14 : List AV := [(.list .shared 4 [x19, x13, x13])]
def r136_14 : AV := x67
set_option maxRecDepth 1000000 in
theorem e136_14 : callD o0 ft 400 136 a136_14 ⟨[], none⟩ = some (r136_14, ⟨[], none⟩) := by kernel_rfl
def a117_6 : List AV := [(.list .shared 4 [x66])]
def r117_6 : AV := (.list .shared 1 [(I 0)])
set_option maxRecDepth 1000000 in
theorem e117_6 : callD o0 ft 400 117 a117_6 ⟨[], none⟩ = some (r117_6, ⟨[], none⟩) := by kernel_rfl
def a117_10 : List AV := [(.list .shared 4 [x68])]
def r117_10 : AV := (.list .shared 1 [(I 0)])
set_option maxRecDepth 1000000 in
theorem e117_10 : callD o0 ft 400 117 a117_10 ⟨[], none⟩ = some (r117_10, ⟨[], none⟩) := by kernel_rfl
def a117_11 : List AV := [x36]
def r117_11 : AV := (.list .shared 1 [])
set_option maxRecDepth 1000000 in
theorem e117_11 : callD o0 ft 400 117 a117_11 ⟨[], none⟩ = some (r117_11, ⟨[], none⟩) := by kernel_rfl
def a136_3 : List AV := [(.list .shared 4 [x9])]
def r136_3 : AV := (.list .shared 4 [x57])
set_option maxRecDepth 1000000 in
theorem e136_3 : callD o0 ft 400 136 a136_3 ⟨[], none⟩ = some (r136_3, ⟨[], none⟩) := by kernel_rfl
def a247_1 : List AV := [x70, (I 1)]
def r247_1 : AV := (.agg [(U 4), (S #[112]), (I 0), x53])
set_option maxRecDepth 1000000 in
theorem e247_1 : callD o0 ft 400 247 a247_1 ⟨[], none⟩ = some (r247_1, ⟨[], none⟩) := by kernel_rfl
def a136_7 : List AV := [x53]
def r136_7 : AV := x53
set_option maxRecDepth 1000000 in
theorem e136_7 : callD o0 ft 400 136 a136_7 ⟨[], none⟩ = some (r136_7, ⟨[], none⟩) := by kernel_rfl
def a117_3 : List AV := [(.list .shared 4 [x69])]
def r117_3 : AV := (.list .shared 1 [])
set_option maxRecDepth 1000000 in
theorem e117_3 : callD o0 ft 400 117 a117_3 ⟨[], none⟩ = some (r117_3, ⟨[], none⟩) := by kernel_rfl
def a47_3 : List AV := [(.list .shared 4 [x71])]
def r47_3 : AV := (I 2)
set_option maxRecDepth 1000000 in
theorem e47_3 : callD o0 ft 400 47 a47_3 ⟨[], none⟩ = some (r47_3, ⟨[], none⟩) := by kernel_rfl
def a247_3 : List AV := [x35, (I 0)]
def r247_3 : AV := (.agg [(U 3), (S #[112]), (I 0), (.list .shared 4 [])])
set_option maxRecDepth 1000000 in
theorem e247_3 : callD o0 ft 400 247 a247_3 ⟨[], none⟩ = some (r247_3, ⟨[], none⟩) := by kernel_rfl
def a47_2 : List AV := [(.list .shared 4 [x35])]
def r47_2 : AV := (I 0)
set_option maxRecDepth 1000000 in
theorem e47_2 : callD o0 ft 400 47 a47_2 ⟨[], none⟩ = some (r47_2, ⟨[], none⟩) := by kernel_rfl
end Go.Proofs.E
