
import Derived.Test.YtjkpoaijmbapiaaGreatDoorEVX
set_option linter.all false
namespace Go.Proofs.E
set_option linter.all false
open Go Go.Am
def a114_6 : List AV := [x0]
def r114_6 : AV := (.tuple [(.list .shared 5 [(.agg [(U 4), (S #[97, 112, 112]), (I 0), x63, (.list .shared 1 [(S #[76])])]), (.agg [(U 4), (S #[58, 45]), (I 0), x77, (.list .shared 1 [(S #[72]), (S #[84]), (S #[76]), (S #[82])])])]), (I 0), (I 0)])
set_option maxRecDepth 1000000 in
theorem e114_6 : callD o0 ft 400 114 a114_6 ⟨[], none⟩ = some (r114_6, ⟨[], none⟩) := by kernel_rfl
def a166_2 : List AV := [x92]
def r166_2 : AV := (.tuple [(.list .shared 5 [x5, x6, x7, x75, (.agg [(U 1), (S #[102]), (I 0), (I 4), (.bool true)]), (.agg [(U 5), (S #[40]), (I 0), (I 5), (.bool false)]), (.agg [(U 3), (S #[88]), (I 0), (I 6), (.bool false)]), (.agg [(U 5), (S #[41]), (I 0), (I 7), (.bool false)]), (.agg [(U 5), (S #[41]), (I 0), (I 8), (.bool false)]), (.agg [(U 6), (S #[]), (I 0), (I 9), (.bool false)]), (.agg [(U 7), (S #[]), (I 0), (I 10), (.bool false)])]), (I 0), (I 0)])
set_option maxRecDepth 1000000 in
theorem e166_2 : callD o0 ft 400 166 a166_2 ⟨[], none⟩ = some (r166_2, ⟨[], none⟩) := by kernel_rfl
def a27_0 : List AV := []
def r27_0 : AV := (.agg [(.func 71 [] []), (.bool false), (.bool false), (.bool false), (.func 54 [] []), (.bool false), (.bool false), (.bool false), (.func 52 [] []), (.bool false), (.bool false), (.bool false), (.func 55 [] []), (.bool false), (.bool false), (.bool false), (.func 55 [] []), (.bool false), (.bool false), (.bool true), (.func 52 [] []), (.bool false), (.bool false), (.bool true), (.func 52 [] []), (.bool false), (.bool false), (.bool true), (.func 52 [] []), (.bool false), (.bool false), (.bool true), (.func 52 [] []), (.bool false), (.bool false), (.bool false), (.func 56 [] []), (.bool false), (.bool false), (.bool false), (.func 58 [] []), (.bool false), (.bool false), (.bool false), (.func 58 [] []), (.bool false), (.bool false), (.bool false), (.func 58 [] []), (.bool false), (.bool false), (.bool true), (.func 59 [] []), (.bool false), (.bool false), (.bool true), (.func 61 [] []), (.bool false), (.bool false), (.bool true), (.func 62 [] []), (.bool false), (.bool false), (.bool false), (.func 62 [] []), (.bool false), (.bool false), (.bool false), (.func 63 [] []), (.bool false), (.bool false), (.bool false), (.func 64 [] []), (.bool true), (.bool false), (.bool false), (.func 68 [] []), (.bool false), (.bool true), (.bool false), (.func 68 [] []), (.bool false), (.bool true), (.bool false), (.func 69 [] []), (.bool false), (.bool true), (.bool false), (.func 62 [] []), (.bool false), (.bool false), (.bool false), (.func 62 [] []), (.bool false), (.bool false), (.bool false), (.func 63 [] []), (.bool false), (.bool false), (.bool false), (.func 65 [] []), (.bool true), (.bool false), (.bool false), (.func 63 [] []), (.bool false), (.bool false), (.bool false), (.func 64 [] []), (.bool true), (.bool false), (.bool false), (.func 63 [] []), (.bool false), (.bool false), (.bool false), (.func 64 [] []), (.bool true), (.bool false), (.bool false), (.func 62 [] []), (.bool false), (.bool false), (.bool false), (.func 68 [] []), (.bool false), (.bool true), (.bool false)])
set_option maxRecDepth 1000000 in
theorem e27_0 : callD o0 ft 400 27 a27_0 ⟨[], none⟩ = some (r27_0, ⟨[], none⟩) := by kernel_rfl
def a114_2 : List AV := [x92]
def r114_2 : AV := (.tuple [(.list .shared 5 [(.agg [(U 4), (S #[112]), (I 0), x85, (.list .shared 1 [(S #[88])])])]), (I 0), (I 0)])
set_option maxRecDepth 1000000 in
theorem e114_2 : callD o0 ft 400 114 a114_2 ⟨[], none⟩ = some (r114_2, ⟨[], none⟩) := by kernel_rfl
def a117_19 : List AV := [x77]
def r117_19 : AV := x78
set_option maxRecDepth 1000000 in
theorem e117_19 : callD o0 ft 400 117 a117_19 ⟨[], none⟩ = some (r117_19, ⟨[], none⟩) := by kernel_rfl
def a17_10 : List AV := [(.list .shared 4 [x71])]
def r17_10 : AV := x90
set_option maxRecDepth 1000000 in
theorem e17_10 : callD o0 ft 400 17 a17_10 ⟨[], none⟩ = some (r17_10, ⟨[], none⟩) := by kernel_rfl
def a114_1 : List AV := [x4]
def r114_1 : AV := (.tuple [(.list .shared 5 [(.agg [(U 4), (S #[112]), (I 0), (.list .shared 4 [x9]), (.list .shared 1 [(S #[88])])])]), (I 0), (I 0)])
set_option maxRecDepth 1000000 in
theorem e114_1 : callD o0 ft 400 114 a114_1 ⟨[], none⟩ = some (r114_1, ⟨[], none⟩) := by kernel_rfl
def a247_11 : List AV := [x44, (I 13)]
def r247_11 : AV := (.agg [(U 4), (S #[97, 112, 112]), (I 0), (.list .shared 4 [(.agg [(U 4), (S #[46]), (I 0), (.list .shared 4 [x93, (.agg [(U 1), (S #[]), (I 14), (.list .shared 4 [])])])]), (.agg [(U 1), (S #[]), (I 15), (.list .shared 4 [])]), (.agg [(U 4), (S #[46]), (I 0), (.list .shared 4 [x93, (.agg [(U 1), (S #[]), (I 16), (.list .shared 4 [])])])])])])
set_option maxRecDepth 1000000 in
theorem e247_11 : callD o0 ft 400 247 a247_11 ⟨[], none⟩ = some (r247_11, ⟨[], none⟩) := by kernel_rfl
def a17_8 : List AV := [(.list .shared 4 [x64])]
def r17_8 : AV := (.list .shared 1 [(I 0)])
set_option maxRecDepth 1000000 in
theorem e17_8 : callD o0 ft 400 17 a17_8 ⟨[], none⟩ = some (r17_8, ⟨[], none⟩) := by kernel_rfl
def a136_9 : List AV := [(.list .shared 4 [x13, x17])]
def r136_9 : AV := x24
set_option maxRecDepth 1000000 in
theorem e136_9 : callD o0 ft 400 136 a136_9 ⟨[], none⟩ = some (r136_9, ⟨[], none⟩) := by kernel_rfl
def a117_22 : List AV := [x18]
def r117_22 : AV := x90
set_option maxRecDepth 1000000 in
theorem e117_22 : callD o0 ft 400 117 a117_22 ⟨[], none⟩ = some (r117_22, ⟨[], none⟩) := by kernel_rfl
def a117_15 : List AV := [x37]
def r117_15 : AV := x90
set_option maxRecDepth 1000000 in
theorem e117_15 : callD o0 ft 400 117 a117_15 ⟨[], none⟩ = some (r117_15, ⟨[], none⟩) := by kernel_rfl
def a17_2 : List AV := [(.list .shared 4 [x95])]
def r17_2 : AV := (.list .shared 0 [])
set_option maxRecDepth 1000000 in
theorem e17_2 : callD o0 ft 400 17 a17_2 ⟨[], none⟩ = some (r17_2, ⟨[], none⟩) := by kernel_rfl
def a247_9 : List AV := [x76, (I 8)]
def r247_9 : AV := x97
set_option maxRecDepth 1000000 in
theorem e247_9 : callD o0 ft 400 247 a247_9 ⟨[], none⟩ = some (r247_9, ⟨[], none⟩) := by kernel_rfl
def a247_2 : List AV := [x86, (I 1)]
def r247_2 : AV := (.agg [(U 4), (S #[112]), (I 0), (.list .shared 4 [x58, (.agg [(U 4), (S #[102]), (I 0), (.list .shared 4 [x58])])])])
set_option maxRecDepth 1000000 in
theorem e247_2 : callD o0 ft 400 247 a247_2 ⟨[], none⟩ = some (r247_2, ⟨[], none⟩) := by kernel_rfl
def a247_10 : List AV := [x64, (I 12)]
def r247_10 : AV := (.agg [(U 4), (S #[97, 112, 112]), (I 0), (.list .shared 4 [x19, x98, x98])])
set_option maxRecDepth 1000000 in
theorem e247_10 : callD o0 ft 400 247 a247_10 ⟨[], none⟩ = some (r247_10, ⟨[], none⟩) := by kernel_rfl
def a136_8 : List AV := [x60]
def r136_8 : AV := (.list .shared 4 [x57, x57])
set_option maxRecDepth 1000000 in
theorem e136_8 : callD o0 ft 400 136 a136_8 ⟨[], none⟩ = some (r136_8, ⟨[], none⟩) := by kernel_rfl
def a17_3 : List AV := [(.list .shared 4 [x70])]
def r17_3 : AV := (.list .shared 0 [])
set_option maxRecDepth 1000000 in
theorem e17_3 : callD o0 ft 400 17 a17_3 ⟨[], none⟩ = some (r17_3, ⟨[], none⟩) := by kernel_rfl
def a117_5 : List AV := [(.list .shared 4 [x9])]
def r117_5 : AV := (.list .shared 1 [(I 0)])
set_option maxRecDepth 1000000 in
theorem e117_5 : callD o0 ft 400 117 a117_5 ⟨[], none⟩ = some (r117_5, ⟨[], none⟩) := by kernel_rfl
def a117_14 : List AV := [(.list .shared 4 [x64])]
def r117_14 : AV := (.list .shared 1 [(I 0)])
set_option maxRecDepth 1000000 in
theorem e117_14 : callD o0 ft 400 117 a117_14 ⟨[], none⟩ = some (r117_14, ⟨[], none⟩) := by kernel_rfl
def a117_20 : List AV := [x14]
def r117_20 : AV := (.list .shared 1 [])
set_option maxRecDepth 1000000 in
theorem e117_20 : callD o0 ft 400 117 a117_20 ⟨[], none⟩ = some (r117_20, ⟨[], none⟩) := by kernel_rfl
def a136_4 : List AV := [(.list .shared 4 [x10])]
def r136_4 : AV := (.list .shared 4 [x57])
set_option maxRecDepth 1000000 in
theorem e136_4 : callD o0 ft 400 136 a136_4 ⟨[], none⟩ = some (r136_4, ⟨[], none⟩) := by kernel_rfl
def a136_0 : List AV := [(.list .shared 4 [x79])]
def r136_0 : AV := x51
set_option maxRecDepth 1000000 in
theorem e136_0 : callD o0 ft 400 136 a136_0 ⟨[], none⟩ = some (r136_0, ⟨[], none⟩) := by kernel_rfl
def a136_6 : List AV := [x51]
def r136_6 : AV := x51
set_option maxRecDepth 1000000 in
theorem e136_6 : callD o0 ft 400 136 a136_6 ⟨[], none⟩ = some (r136_6, ⟨[], none⟩) := by kernel_rfl
def a117_2 : List AV := [(.list .shared 4 [x91])]
def r117_2 : AV := (.list .shared 1 [])
set_option maxRecDepth 1000000 in
theorem e117_2 : callD o0 ft 400 117 a117_2 ⟨[], none⟩ = some (r117_2, ⟨[], none⟩) := by kernel_rfl
def a117_12 : List AV := [(.list .shared 4 [x35])]
def r117_12 : AV := (.list .shared 1 [])
set_option maxRecDepth 1000000 in
theorem e117_12 : callD o0 ft 400 117 a117_12 ⟨[], none⟩ = some (r117_12, ⟨[], none⟩) := by kernel_rfl
def a47_1 : List AV := [(.list .shared 4 [x68])]
def r47_1 : AV := (I 1)
set_option maxRecDepth 1000000 in
theorem e47_1 : callD o0 ft 400 47 a47_1 ⟨[], none⟩ = some (r47_1, ⟨[], none⟩) := by kernel_rfl
def a136_1 : List AV := [(.list .shared 4 [])]
def r136_1 : AV := (.list .shared 4 [])
set_option maxRecDepth 1000000 in
theorem e136_1 : callD o0 ft 400 136 a136_1 ⟨[], none⟩ = some (r136_1, ⟨[], none⟩) := by kernel_rfl
end Go.Proofs.E
