
import Derived.Test.YtjkpoaijmbapiaaGreatDoorEV2m
set_option linter.all false
namespace Go.Proofs.E
set_option linter.all false
open Go Go.Am
def a110_3 : List AV := [x153]
def r110_3 : AV := (.tuple [x154, (I 0), (I 0)])
set_option maxRecDepth 1000000 in
theorem e110_3 : callD o1 ft 400 110 a110_3 ⟨[], none⟩ = some (r110_3, ⟨[], none⟩) := by kernel_rfl
def a15_16 : List AV := [x71]
def r15_16 : AV := (.bool true)
set_option maxRecDepth 1000000 in
theorem e15_16 : callD o1 ft 400 15 a15_16 ⟨[], none⟩ = some (r15_16, ⟨[], none⟩) := by kernel_rfl
def a110_0 : List AV := [x155]
def r110_0 : AV := (.tuple [x121, (I 0), (I 0)])
set_option maxRecDepth 1000000 in
theorem e110_0 : callD o1 ft 400 110 a110_0 ⟨[], none⟩ = some (r110_0, ⟨[], none⟩) := by kernel_rfl
def a25_2 : List AV := [x159]
def r25_2 : AV := (.list .shared 7 [x158])
set_option maxRecDepth 1000000 in
theorem e25_2 : callD o1 ft 400 25 a25_2 ⟨[], none⟩ = some (r25_2, ⟨[], none⟩) := by kernel_rfl
def a110_2 : List AV := [x122]
def r110_2 : AV := (.tuple [x122, (I 0), (I 0)])
set_option maxRecDepth 1000000 in
theorem e110_2 : callD o1 ft 400 110 a110_2 ⟨[], none⟩ = some (r110_2, ⟨[], none⟩) := by kernel_rfl
def a15_2 : List AV := [x95]
def r15_2 : AV := (.bool true)
set_option maxRecDepth 1000000 in
theorem e15_2 : callD o1 ft 400 15 a15_2 ⟨[], none⟩ = some (r15_2, ⟨[], none⟩) := by kernel_rfl
def a148_0 : List AV := [(.ptr 7 0 0), (.func 149 [] [(.ptr 25 0 0), (.ptr 26 0 0)]), (.func 150 [] [(.ptr 25 0 0), (.ptr 26 0 0)])]
def r148_0 : AV := (.bool true)
set_option maxRecDepth 1000000 in
theorem e148_0 : callD o1 ft 400 148 a148_0 ⟨m10, none⟩ = some (r148_0, ⟨m11, (some 7)⟩) := by kernel_rfl
def a15_11 : List AV := [x38]
def r15_11 : AV := (.bool true)
set_option maxRecDepth 1000000 in
theorem e15_11 : callD o1 ft 400 15 a15_11 ⟨[], none⟩ = some (r15_11, ⟨[], none⟩) := by kernel_rfl
def a15_7 : List AV := [x84]
def r15_7 : AV := (.bool true)
set_option maxRecDepth 1000000 in
theorem e15_7 : callD o1 ft 400 15 a15_7 ⟨[], none⟩ = some (r15_7, ⟨[], none⟩) := by kernel_rfl
def a7_0 : List AV := [(.list .shared 7 [x124]), x9]
def r7_0 : AV := (I 1)
set_option maxRecDepth 1000000 in
theorem e7_0 : callD o1 ft 400 7 a7_0 ⟨[], none⟩ = some (r7_0, ⟨[], none⟩) := by kernel_rfl
def a7_1 : List AV := [(.list .shared 7 [x124]), x79]
def r7_1 : AV := (I 1)
set_option maxRecDepth 1000000 in
theorem e7_1 : callD o1 ft 400 7 a7_1 ⟨[], none⟩ = some (r7_1, ⟨[], none⟩) := by kernel_rfl
def a7_3 : List AV := [x150, x9]
def r7_3 : AV := (I 0)
set_option maxRecDepth 1000000 in
theorem e7_3 : callD o1 ft 400 7 a7_3 ⟨[], none⟩ = some (r7_3, ⟨[], none⟩) := by kernel_rfl
def a7_7 : List AV := [x151, x9]
def r7_7 : AV := (I 1)
set_option maxRecDepth 1000000 in
theorem e7_7 : callD o1 ft 400 7 a7_7 ⟨[], none⟩ = some (r7_7, ⟨[], none⟩) := by kernel_rfl
def a7_11 : List AV := [x126, x94]
def r7_11 : AV := (I 1)
set_option maxRecDepth 1000000 in
theorem e7_11 : callD o1 ft 400 7 a7_11 ⟨[], none⟩ = some (r7_11, ⟨[], none⟩) := by kernel_rfl
def a7_15 : List AV := [(.list .shared 7 [(.agg [(U 8), (I 0), (I 0), (U 0), (S #[]), (I 0), (.list .shared 0 [])])]), x9]
def r7_15 : AV := (I 0)
set_option maxRecDepth 1000000 in
theorem e7_15 : callD o1 ft 400 7 a7_15 ⟨[], none⟩ = some (r7_15, ⟨[], none⟩) := by kernel_rfl
def a15_6 : List AV := [x9]
def r15_6 : AV := (.bool true)
set_option maxRecDepth 1000000 in
theorem e15_6 : callD o1 ft 400 15 a15_6 ⟨[], none⟩ = some (r15_6, ⟨[], none⟩) := by kernel_rfl
def a15_15 : List AV := [x40]
def r15_15 : AV := (.bool true)
set_option maxRecDepth 1000000 in
theorem e15_15 : callD o1 ft 400 15 a15_15 ⟨[], none⟩ = some (r15_15, ⟨[], none⟩) := by kernel_rfl
end Go.Proofs.E
