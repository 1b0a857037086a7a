
import Derived.Test.YtjkpoaijmbapiaaGreatDoorEV2m
set_option linter.all false
namespace Go.Proofs.E
set_option linter.all false
open Go Go.Am
def a41_0 : List AV := [x121]
def r41_0 : AV := (.tuple [(I 0), (I 0)])
set_option maxRecDepth 1000000 in
theorem e41_0 : callD o1 ft 400 41 a41_0 ⟨[], none⟩ = some (r41_0, ⟨[], none⟩) := by kernel_rfl
def a135_3 : List AV := [(.ptr 123 0 0), x109]
def r135_3 : AV := x17
set_option maxRecDepth 1000000 in
theorem e135_3 : callD o1 ft 400 135 a135_3 ⟨m7, none⟩ = some (r135_3, ⟨m7, none⟩) := by kernel_rfl
def a41_2 : List AV := [x122]
def r41_2 : AV := (.tuple [(I 0), (I 0)])
set_option maxRecDepth 1000000 in
theorem e41_2 : callD o1 ft 400 41 a41_2 ⟨[], none⟩ = some (r41_2, ⟨[], none⟩) := by kernel_rfl
def a148_4 : List AV := [(.ptr 123 0 0), (.func 149 [] [(.ptr 324 0 0), (.ptr 325 0 0)]), (.func 150 [] [(.ptr 324 0 0), (.ptr 325 0 0)])]
def r148_4 : AV := (.bool true)
set_option maxRecDepth 1000000 in
theorem e148_4 : callD o1 ft 400 148 a148_4 ⟨m18, none⟩ = some (r148_4, ⟨m19, (some 123)⟩) := by kernel_rfl
def a135_2 : List AV := [(.ptr 123 0 0), x110]
def r135_2 : AV := x15
set_option maxRecDepth 1000000 in
theorem e135_2 : callD o1 ft 400 135 a135_2 ⟨m6, none⟩ = some (r135_2, ⟨m6, none⟩) := by kernel_rfl
def a15_8 : List AV := [x68]
def r15_8 : AV := (.bool true)
set_option maxRecDepth 1000000 in
theorem e15_8 : callD o1 ft 400 15 a15_8 ⟨[], none⟩ = some (r15_8, ⟨[], none⟩) := by kernel_rfl
def a25_0 : List AV := [x123]
def r25_0 : AV := x55
set_option maxRecDepth 1000000 in
theorem e25_0 : callD o1 ft 400 25 a25_0 ⟨[], none⟩ = some (r25_0, ⟨[], none⟩) := by kernel_rfl
def a15_3 : List AV := [x35]
def r15_3 : AV := (.bool true)
set_option maxRecDepth 1000000 in
theorem e15_3 : callD o1 ft 400 15 a15_3 ⟨[], none⟩ = some (r15_3, ⟨[], none⟩) := by kernel_rfl
def a15_4 : List AV := [x79]
def r15_4 : AV := (.bool true)
set_option maxRecDepth 1000000 in
theorem e15_4 : callD o1 ft 400 15 a15_4 ⟨[], none⟩ = some (r15_4, ⟨[], none⟩) := by kernel_rfl
def a7_2 : List AV := [(.list .shared 7 [x124]), x94]
def r7_2 : AV := (I 0)
set_option maxRecDepth 1000000 in
theorem e7_2 : callD o1 ft 400 7 a7_2 ⟨[], none⟩ = some (r7_2, ⟨[], none⟩) := by kernel_rfl
def a7_6 : List AV := [x125, x79]
def r7_6 : AV := (I 0)
set_option maxRecDepth 1000000 in
theorem e7_6 : callD o1 ft 400 7 a7_6 ⟨[], none⟩ = some (r7_6, ⟨[], none⟩) := by kernel_rfl
def a7_10 : List AV := [x126, x9]
def r7_10 : AV := (I 0)
set_option maxRecDepth 1000000 in
theorem e7_10 : callD o1 ft 400 7 a7_10 ⟨[], none⟩ = some (r7_10, ⟨[], none⟩) := by kernel_rfl
def a7_14 : List AV := [(.list .shared 7 [(.agg [(U 2), (I 0), (I 0), (U 0), (S #[]), (I 0), (.list .shared 0 [])])]), x9]
def r7_14 : AV := (I 0)
set_option maxRecDepth 1000000 in
theorem e7_14 : callD o1 ft 400 7 a7_14 ⟨[], none⟩ = some (r7_14, ⟨[], none⟩) := by kernel_rfl
def a7_18 : List AV := [(.list .shared 7 [(.agg [(U 10), (I 3), (I 1), (U 0), (S #[]), (I 0), (.list .shared 0 [])]), (.agg [(U 12), (I 3), (I 1), (U 0), (S #[]), (I 0), (.list .shared 0 [])])]), x9]
def r7_18 : AV := (I 2)
set_option maxRecDepth 1000000 in
theorem e7_18 : callD o1 ft 400 7 a7_18 ⟨[], none⟩ = some (r7_18, ⟨[], none⟩) := by kernel_rfl
end Go.Proofs.E
