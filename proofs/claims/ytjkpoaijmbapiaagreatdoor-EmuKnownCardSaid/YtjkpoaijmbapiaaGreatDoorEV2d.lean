
import Derived.Test.YtjkpoaijmbapiaaGreatDoorEV2m
set_option linter.all false
namespace Go.Proofs.E
set_option linter.all false
open Go Go.Am
def a41_3 : List AV := [x154]
def r41_3 : AV := (.tuple [(I 0), (I 0)])
set_option maxRecDepth 1000000 in
theorem e41_3 : callD o1 ft 400 41 a41_3 ⟨[], none⟩ = some (r41_3, ⟨[], none⟩) := by kernel_rfl
def a14_1 : List AV := [x160]
def r14_1 : AV := (I 0)
set_option maxRecDepth 1000000 in
theorem e14_1 : callD o1 ft 400 14 a14_1 ⟨m9, none⟩ = some (r14_1, ⟨m9, none⟩) := by kernel_rfl
def a135_0 : List AV := [(.ptr 123 0 0), x110]
def r135_0 : AV := x17
set_option maxRecDepth 1000000 in
theorem e135_0 : callD o1 ft 400 135 a135_0 ⟨m4, none⟩ = some (r135_0, ⟨m4, none⟩) := by kernel_rfl
def a138_1 : List AV := [(.ptr 123 0 0), x110, (.agg [(U 3), (I 3), (S #[])]), (.bool false)]
def r138_1 : AV := (.bool true)
set_option maxRecDepth 1000000 in
theorem e138_1 : callD o1 ft 400 138 a138_1 ⟨m2, none⟩ = some (r138_1, ⟨m3, (some 123)⟩) := by kernel_rfl
def a148_3 : List AV := [(.ptr 123 0 0), (.func 149 [] [(.ptr 263 0 0), (.ptr 264 0 0)]), (.func 150 [] [(.ptr 263 0 0), (.ptr 264 0 0)])]
def r148_3 : AV := (.bool true)
set_option maxRecDepth 1000000 in
theorem e148_3 : callD o1 ft 400 148 a148_3 ⟨m16, none⟩ = some (r148_3, ⟨m17, (some 123)⟩) := by kernel_rfl
def a135_1 : List AV := [(.ptr 123 0 0), x109]
def r135_1 : AV := x56
set_option maxRecDepth 1000000 in
theorem e135_1 : callD o1 ft 400 135 a135_1 ⟨m5, none⟩ = some (r135_1, ⟨m5, none⟩) := by kernel_rfl
def a15_1 : List AV := [x91]
def r15_1 : AV := (.bool true)
set_option maxRecDepth 1000000 in
theorem e15_1 : callD o1 ft 400 15 a15_1 ⟨[], none⟩ = some (r15_1, ⟨[], none⟩) := by kernel_rfl
def a15_0 : List AV := [x66]
def r15_0 : AV := (.bool true)
set_option maxRecDepth 1000000 in
theorem e15_0 : callD o1 ft 400 15 a15_0 ⟨[], none⟩ = some (r15_0, ⟨[], none⟩) := by kernel_rfl
def a15_10 : List AV := [x13]
def r15_10 : AV := (.bool true)
set_option maxRecDepth 1000000 in
theorem e15_10 : callD o1 ft 400 15 a15_10 ⟨[], none⟩ = some (r15_10, ⟨[], none⟩) := by kernel_rfl
def a15_5 : List AV := [x69]
def r15_5 : AV := (.bool true)
set_option maxRecDepth 1000000 in
theorem e15_5 : callD o1 ft 400 15 a15_5 ⟨[], none⟩ = some (r15_5, ⟨[], none⟩) := by kernel_rfl
def a7_5 : List AV := [x125, x9]
def r7_5 : AV := (I 1)
set_option maxRecDepth 1000000 in
theorem e7_5 : callD o1 ft 400 7 a7_5 ⟨[], none⟩ = some (r7_5, ⟨[], none⟩) := by kernel_rfl
def a7_9 : List AV := [x151, x79]
def r7_9 : AV := (I 0)
set_option maxRecDepth 1000000 in
theorem e7_9 : callD o1 ft 400 7 a7_9 ⟨[], none⟩ = some (r7_9, ⟨[], none⟩) := by kernel_rfl
def a7_13 : List AV := [x152, x94]
def r7_13 : AV := (I 0)
set_option maxRecDepth 1000000 in
theorem e7_13 : callD o1 ft 400 7 a7_13 ⟨[], none⟩ = some (r7_13, ⟨[], none⟩) := by kernel_rfl
def a7_17 : List AV := [(.list .shared 7 [(.agg [(U 16), (I (-3)), (I 0), (U 0), (S #[]), (I 0), (.list .shared 0 [])]), x124]), x9]
def r7_17 : AV := (I 1)
set_option maxRecDepth 1000000 in
theorem e7_17 : callD o1 ft 400 7 a7_17 ⟨[], none⟩ = some (r7_17, ⟨[], none⟩) := by kernel_rfl
def a15_14 : List AV := [x10]
def r15_14 : AV := (.bool true)
set_option maxRecDepth 1000000 in
theorem e15_14 : callD o1 ft 400 15 a15_14 ⟨[], none⟩ = some (r15_14, ⟨[], none⟩) := by kernel_rfl
end Go.Proofs.E
