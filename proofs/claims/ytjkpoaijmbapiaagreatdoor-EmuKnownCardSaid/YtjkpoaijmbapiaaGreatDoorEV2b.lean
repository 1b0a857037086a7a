
import Derived.Test.YtjkpoaijmbapiaaGreatDoorEV2m
set_option linter.all false
namespace Go.Proofs.E
set_option linter.all false
open Go Go.Am
def a41_1 : List AV := [x127]
def r41_1 : AV := (.tuple [(I 0), (I 0)])
set_option maxRecDepth 1000000 in
theorem e41_1 : callD o1 ft 400 41 a41_1 ⟨[], none⟩ = some (r41_1, ⟨[], none⟩) := by kernel_rfl
def a138_0 : List AV := [(.ptr 123 0 0), x110, (.agg [(U 3), (I 6), (S #[])]), (.bool false)]
def r138_0 : AV := (.bool true)
set_option maxRecDepth 1000000 in
theorem e138_0 : callD o1 ft 400 138 a138_0 ⟨m0, none⟩ = some (r138_0, ⟨m1, (some 123)⟩) := by kernel_rfl
def a14_0 : List AV := [(.agg [(.ref 11 458759 0 9), (.map 9)])]
def r14_0 : AV := (I 0)
set_option maxRecDepth 1000000 in
theorem e14_0 : callD o1 ft 400 14 a14_0 ⟨m8, none⟩ = some (r14_0, ⟨m8, none⟩) := by kernel_rfl
def a110_1 : List AV := [x128]
def r110_1 : AV := (.tuple [x127, (I 0), (I 0)])
set_option maxRecDepth 1000000 in
theorem e110_1 : callD o1 ft 400 110 a110_1 ⟨[], none⟩ = some (r110_1, ⟨[], none⟩) := by kernel_rfl
def a148_2 : List AV := [(.ptr 123 0 0), (.func 149 [] [(.ptr 202 0 0), (.ptr 203 0 0)]), (.func 150 [] [(.ptr 202 0 0), (.ptr 203 0 0)])]
def r148_2 : AV := (.bool true)
set_option maxRecDepth 1000000 in
theorem e148_2 : callD o1 ft 400 148 a148_2 ⟨m14, none⟩ = some (r148_2, ⟨m15, (some 123)⟩) := by kernel_rfl
def a25_3 : List AV := [x148]
def r25_3 : AV := x32
set_option maxRecDepth 1000000 in
theorem e25_3 : callD o1 ft 400 25 a25_3 ⟨[], none⟩ = some (r25_3, ⟨[], none⟩) := by kernel_rfl
def a148_1 : List AV := [(.ptr 46 0 0), (.func 217 [] [(.ptr 67 0 0), (.ptr 68 0 0), (.ptr 69 0 0)]), (.func 218 [] [(.ptr 67 0 0), (.ptr 68 0 0)])]
def r148_1 : AV := (.bool false)
set_option maxRecDepth 1000000 in
theorem e148_1 : callD o1 ft 400 148 a148_1 ⟨m12, none⟩ = some (r148_1, ⟨m13, (some 46)⟩) := by kernel_rfl
def a15_13 : List AV := [x42]
def r15_13 : AV := (.bool true)
set_option maxRecDepth 1000000 in
theorem e15_13 : callD o1 ft 400 15 a15_13 ⟨[], none⟩ = some (r15_13, ⟨[], none⟩) := by kernel_rfl
def a15_9 : List AV := [(.agg [(U 3), (S #[97, 112, 112]), (I 0), (.list .shared 0 [])])]
def r15_9 : AV := (.bool true)
set_option maxRecDepth 1000000 in
theorem e15_9 : callD o1 ft 400 15 a15_9 ⟨[], none⟩ = some (r15_9, ⟨[], none⟩) := by kernel_rfl
def a25_1 : List AV := [x149]
def r25_1 : AV := (.list .shared 7 [x31])
set_option maxRecDepth 1000000 in
theorem e25_1 : callD o1 ft 400 25 a25_1 ⟨[], none⟩ = some (r25_1, ⟨[], none⟩) := by kernel_rfl
def a7_4 : List AV := [x150, x79]
def r7_4 : AV := (I 1)
set_option maxRecDepth 1000000 in
theorem e7_4 : callD o1 ft 400 7 a7_4 ⟨[], none⟩ = some (r7_4, ⟨[], none⟩) := by kernel_rfl
def a7_8 : List AV := [x151, x94]
def r7_8 : AV := (I 1)
set_option maxRecDepth 1000000 in
theorem e7_8 : callD o1 ft 400 7 a7_8 ⟨[], none⟩ = some (r7_8, ⟨[], none⟩) := by kernel_rfl
def a7_12 : List AV := [x152, x9]
def r7_12 : AV := (I 1)
set_option maxRecDepth 1000000 in
theorem e7_12 : callD o1 ft 400 7 a7_12 ⟨[], none⟩ = some (r7_12, ⟨[], none⟩) := by kernel_rfl
def a7_16 : List AV := [(.list .shared 7 [(.agg [(U 16), (I 77), (I 0), (U 0), (S #[]), (I 0), (.list .shared 0 [])])]), x9]
def r7_16 : AV := (I 1)
set_option maxRecDepth 1000000 in
theorem e7_16 : callD o1 ft 400 7 a7_16 ⟨[], none⟩ = some (r7_16, ⟨[], none⟩) := by kernel_rfl
def a15_12 : List AV := [x39]
def r15_12 : AV := (.bool true)
set_option maxRecDepth 1000000 in
theorem e15_12 : callD o1 ft 400 15 a15_12 ⟨[], none⟩ = some (r15_12, ⟨[], none⟩) := by kernel_rfl
end Go.Proofs.E
