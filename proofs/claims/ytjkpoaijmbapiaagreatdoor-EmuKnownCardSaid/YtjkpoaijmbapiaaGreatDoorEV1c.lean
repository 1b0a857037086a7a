
import Derived.Test.YtjkpoaijmbapiaaGreatDoorEVX
set_option linter.all false
namespace Go.Proofs.E
set_option linter.all false
open Go Go.Am
def a166_0 : List AV := [x72]
def r166_0 : AV := (.tuple [(.list .shared 5 [x5, x6, (.agg [(U 1), (S #[97]), (I 0), (I 2), (.bool false)]), x8, x73, (.agg [(U 1), (S #[112]), (I 0), (I 6), (.bool true)]), (.agg [(U 5), (S #[40]), (I 0), (I 7), (.bool false)]), (.agg [(U 1), (S #[98]), (I 0), (I 8), (.bool false)]), (.agg [(U 5), (S #[41]), (I 0), (I 9), (.bool false)]), (.agg [(U 6), (S #[]), (I 0), (I 10), (.bool false)]), (.agg [(U 7), (S #[]), (I 0), (I 11), (.bool false)])]), (I 0), (I 0)])
set_option maxRecDepth 1000000 in
theorem e166_0 : callD o0 ft 400 166 a166_0 ⟨[], none⟩ = some (r166_0, ⟨[], none⟩) := by kernel_rfl
def a166_3 : List AV := [x74]
def r166_3 : AV := (.tuple [(.list .shared 5 [x5, x6, (.agg [(U 3), (S #[65]), (I 0), (I 2), (.bool false)]), x75, (.agg [(U 3), (S #[65]), (I 0), (I 4), (.bool false)]), (.agg [(U 5), (S #[41]), (I 0), (I 5), (.bool false)]), (.agg [(U 6), (S #[]), (I 0), (I 7), (.bool false)]), (.agg [(U 7), (S #[]), (I 0), (I 8), (.bool false)])]), (I 0), (I 0)])
set_option maxRecDepth 1000000 in
theorem e166_3 : callD o0 ft 400 166 a166_3 ⟨[], none⟩ = some (r166_3, ⟨[], none⟩) := by kernel_rfl
def a166_4 : List AV := [x34]
def r166_4 : AV := (.tuple [(.list .shared 5 [x33, (.agg [(U 1), (S #[58, 45]), (I 0), (I 1), (.bool false)]), (.agg [(U 1), (S #[112]), (I 0), (I 3), (.bool false)]), x73, (.agg [(U 7), (S #[]), (I 0), (I 5), (.bool false)])]), (I 0), (I 0)])
set_option maxRecDepth 1000000 in
theorem e166_4 : callD o0 ft 400 166 a166_4 ⟨[], none⟩ = some (r166_4, ⟨[], none⟩) := by kernel_rfl
def a17_9 : List AV := [x77]
def r17_9 : AV := x78
set_option maxRecDepth 1000000 in
theorem e17_9 : callD o0 ft 400 17 a17_9 ⟨[], none⟩ = some (r17_9, ⟨[], none⟩) := by kernel_rfl
def a114_0 : List AV := [x72]
def r114_0 : AV := (.tuple [(.list .shared 5 [(.agg [(U 4), (S #[112]), (I 0), (.list .shared 4 [x79]), (.list .shared 0 [])]), (.agg [(U 4), (S #[112]), (I 0), (.list .shared 4 [x69]), (.list .shared 0 [])])]), (I 0), (I 0)])
set_option maxRecDepth 1000000 in
theorem e114_0 : callD o0 ft 400 114 a114_0 ⟨[], none⟩ = some (r114_0, ⟨[], none⟩) := by kernel_rfl
def a114_3 : List AV := [x74]
def r114_3 : AV := (.tuple [(.list .shared 5 [(.agg [(U 4), (S #[112]), (I 0), x60, (.list .shared 1 [(S #[65])])])]), (I 0), (I 0)])
set_option maxRecDepth 1000000 in
theorem e114_3 : callD o0 ft 400 114 a114_3 ⟨[], none⟩ = some (r114_3, ⟨[], none⟩) := by kernel_rfl
def a117_17 : List AV := [x43]
def r117_17 : AV := x78
set_option maxRecDepth 1000000 in
theorem e117_17 : callD o0 ft 400 117 a117_17 ⟨[], none⟩ = some (r117_17, ⟨[], none⟩) := by kernel_rfl
def a247_8 : List AV := [x44, (I 8)]
def r247_8 : AV := (.agg [(U 4), (S #[97, 112, 112]), (I 0), (.list .shared 4 [x81, x82, (.agg [(U 4), (S #[46]), (I 0), (.list .shared 4 [x80, x83])])])])
set_option maxRecDepth 1000000 in
theorem e247_8 : callD o0 ft 400 247 a247_8 ⟨[], none⟩ = some (r247_8, ⟨[], none⟩) := by kernel_rfl
def a17_4 : List AV := [(.list .shared 4 [x86])]
def r17_4 : AV := (.list .shared 1 [(I 0)])
set_option maxRecDepth 1000000 in
theorem e17_4 : callD o0 ft 400 17 a17_4 ⟨[], none⟩ = some (r17_4, ⟨[], none⟩) := by kernel_rfl
def a17_5 : List AV := [(.list .shared 4 [x68])]
def r17_5 : AV := (.list .shared 1 [(I 0)])
set_option maxRecDepth 1000000 in
theorem e17_5 : callD o0 ft 400 17 a17_5 ⟨[], none⟩ = some (r17_5, ⟨[], none⟩) := by kernel_rfl
def a136_11 : List AV := [(.list .shared 4 [x17, x13])]
def r136_11 : AV := x29
set_option maxRecDepth 1000000 in
theorem e136_11 : callD o0 ft 400 136 a136_11 ⟨[], none⟩ = some (r136_11, ⟨[], none⟩) := by kernel_rfl
def a117_13 : List AV := [x63]
def r117_13 : AV := (.list .shared 1 [(I 0)])
set_option maxRecDepth 1000000 in
theorem e117_13 : callD o0 ft 400 117 a117_13 ⟨[], none⟩ = some (r117_13, ⟨[], none⟩) := by kernel_rfl
def a114_5 : List AV := [(S #[112, 10, 46])]
def r114_5 : AV := (.tuple [(.list .shared 5 [(.agg [(U 3), (S #[112]), (I 0), (.list .shared 0 []), (.list .shared 0 [])])]), (I 0), (I 0)])
set_option maxRecDepth 1000000 in
theorem e114_5 : callD o0 ft 400 114 a114_5 ⟨[], none⟩ = some (r114_5, ⟨[], none⟩) := by kernel_rfl
def a247_6 : List AV := [x76, (I 3)]
def r247_6 : AV := x88
set_option maxRecDepth 1000000 in
theorem e247_6 : callD o0 ft 400 247 a247_6 ⟨[], none⟩ = some (r247_6, ⟨[], none⟩) := by kernel_rfl
def a117_7 : List AV := [x85]
def r117_7 : AV := (.list .shared 1 [(I 0)])
set_option maxRecDepth 1000000 in
theorem e117_7 : callD o0 ft 400 117 a117_7 ⟨[], none⟩ = some (r117_7, ⟨[], none⟩) := by kernel_rfl
def a247_7 : List AV := [x64, (I 7)]
def r247_7 : AV := (.agg [(U 4), (S #[97, 112, 112]), (I 0), (.list .shared 4 [x19, x89, x89])])
set_option maxRecDepth 1000000 in
theorem e247_7 : callD o0 ft 400 247 a247_7 ⟨[], none⟩ = some (r247_7, ⟨[], none⟩) := by kernel_rfl
def a117_23 : List AV := [(.list .shared 4 [x71])]
def r117_23 : AV := x90
set_option maxRecDepth 1000000 in
theorem e117_23 : callD o0 ft 400 117 a117_23 ⟨[], none⟩ = some (r117_23, ⟨[], none⟩) := by kernel_rfl
def a17_1 : List AV := [(.list .shared 4 [x91])]
def r17_1 : AV := (.list .shared 0 [])
set_option maxRecDepth 1000000 in
theorem e17_1 : callD o0 ft 400 17 a17_1 ⟨[], none⟩ = some (r17_1, ⟨[], none⟩) := by kernel_rfl
def a136_2 : List AV := [(.list .shared 4 [(.agg [(U 4), (S #[102]), (I 0), (.list .shared 4 [x40])])])]
def r136_2 : AV := (.list .shared 4 [(.agg [(U 4), (S #[102]), (I 0), (.list .shared 4 [x57])])])
set_option maxRecDepth 1000000 in
theorem e136_2 : callD o0 ft 400 136 a136_2 ⟨[], none⟩ = some (r136_2, ⟨[], none⟩) := by kernel_rfl
def a117_8 : List AV := [(.list .shared 4 [x86])]
def r117_8 : AV := (.list .shared 1 [(I 0)])
set_option maxRecDepth 1000000 in
theorem e117_8 : callD o0 ft 400 117 a117_8 ⟨[], none⟩ = some (r117_8, ⟨[], none⟩) := by kernel_rfl
def a17_7 : List AV := [(.list .shared 4 [x35])]
def r17_7 : AV := (.list .shared 0 [])
set_option maxRecDepth 1000000 in
theorem e17_7 : callD o0 ft 400 17 a17_7 ⟨[], none⟩ = some (r17_7, ⟨[], none⟩) := by kernel_rfl
def a117_21 : List AV := [x16]
def r117_21 : AV := (.list .shared 1 [])
set_option maxRecDepth 1000000 in
theorem e117_21 : callD o0 ft 400 117 a117_21 ⟨[], none⟩ = some (r117_21, ⟨[], none⟩) := by kernel_rfl
def a247_0 : List AV := [x91, (I 1)]
def r247_0 : AV := (.agg [(U 4), (S #[112]), (I 0), x51])
set_option maxRecDepth 1000000 in
theorem e247_0 : callD o0 ft 400 247 a247_0 ⟨[], none⟩ = some (r247_0, ⟨[], none⟩) := by kernel_rfl
def a136_5 : List AV := [(.list .shared 4 [x69])]
def r136_5 : AV := x53
set_option maxRecDepth 1000000 in
theorem e136_5 : callD o0 ft 400 136 a136_5 ⟨[], none⟩ = some (r136_5, ⟨[], none⟩) := by kernel_rfl
def a117_1 : List AV := [(.list .shared 4 [x79])]
def r117_1 : AV := (.list .shared 1 [])
set_option maxRecDepth 1000000 in
theorem e117_1 : callD o0 ft 400 117 a117_1 ⟨[], none⟩ = some (r117_1, ⟨[], none⟩) := by kernel_rfl
def a117_4 : List AV := [(.list .shared 4 [x70])]
def r117_4 : AV := (.list .shared 1 [])
set_option maxRecDepth 1000000 in
theorem e117_4 : callD o0 ft 400 117 a117_4 ⟨[], none⟩ = some (r117_4, ⟨[], none⟩) := by kernel_rfl
def a47_0 : List AV := [(.list .shared 4 [x66])]
def r47_0 : AV := (I 1)
set_option maxRecDepth 1000000 in
theorem e47_0 : callD o0 ft 400 47 a47_0 ⟨[], none⟩ = some (r47_0, ⟨[], none⟩) := by kernel_rfl
def a117_0 : List AV := [(.list .shared 0 [])]
def r117_0 : AV := (.list .shared 1 [])
set_option maxRecDepth 1000000 in
theorem e117_0 : callD o0 ft 400 117 a117_0 ⟨[], none⟩ = some (r117_0, ⟨[], none⟩) := by kernel_rfl
end Go.Proofs.E
