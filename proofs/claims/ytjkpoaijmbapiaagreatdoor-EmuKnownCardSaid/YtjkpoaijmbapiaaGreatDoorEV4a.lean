
import Derived.Test.YtjkpoaijmbapiaaGreatDoorEV3
set_option linter.all false
namespace Go.Proofs.E
set_option linter.all false
open Go Go.Am
def a22_3 : List AV := [x154, x163]
def r22_3 : AV := (.tuple [x71, (.bool true)])
set_option maxRecDepth 1000000 in
theorem e22_3 : callD o3 ft 400 22 a22_3 ⟨[], none⟩ = some (r22_3, ⟨[], none⟩) := by kernel_rfl
def a22_1 : List AV := [x127, (S #[112, 40, 65, 44, 65, 41])]
def r22_1 : AV := (.tuple [x68, (.bool true)])
set_option maxRecDepth 1000000 in
theorem e22_1 : callD o3 ft 400 22 a22_1 ⟨[], none⟩ = some (r22_1, ⟨[], none⟩) := by kernel_rfl
def a22_0 : List AV := [x121, (S #[112, 40, 88, 41])]
def r22_0 : AV := (.tuple [x66, (.bool true)])
set_option maxRecDepth 1000000 in
theorem e22_0 : callD o3 ft 400 22 a22_0 ⟨[], none⟩ = some (r22_0, ⟨[], none⟩) := by kernel_rfl
def a24_3 : List AV := [x154, x71, (I 300)]
def r24_3 : AV := (.tuple [x148, (I 0)])
set_option maxRecDepth 1000000 in
theorem e24_3 : callD o3 ft 400 24 a24_3 ⟨[], none⟩ = some (r24_3, ⟨[], none⟩) := by kernel_rfl
def a24_2 : List AV := [x122, x35, (I 10)]
def r24_2 : AV := (.tuple [x159, (I 0)])
set_option maxRecDepth 1000000 in
theorem e24_2 : callD o3 ft 400 24 a24_2 ⟨[], none⟩ = some (r24_2, ⟨[], none⟩) := by kernel_rfl
def a22_2 : List AV := [x122, (S #[112])]
def r22_2 : AV := (.tuple [x35, (.bool true)])
set_option maxRecDepth 1000000 in
theorem e22_2 : callD o3 ft 400 22 a22_2 ⟨[], none⟩ = some (r22_2, ⟨[], none⟩) := by kernel_rfl
def a24_0 : List AV := [x121, x66, (I 100)]
def r24_0 : AV := (.tuple [x123, (I 0)])
set_option maxRecDepth 1000000 in
theorem e24_0 : callD o3 ft 400 24 a24_0 ⟨[], none⟩ = some (r24_0, ⟨[], none⟩) := by kernel_rfl
def a24_1 : List AV := [x127, x68, (I 100)]
def r24_1 : AV := (.tuple [x149, (I 0)])
set_option maxRecDepth 1000000 in
theorem e24_1 : callD o3 ft 400 24 a24_1 ⟨[], none⟩ = some (r24_1, ⟨[], none⟩) := by kernel_rfl
def a21_0 : List AV := [x72]
def r21_0 : AV := (.tuple [x121, (.bool true)])
set_option maxRecDepth 1000000 in
theorem e21_0 : callD o3 ft 400 21 a21_0 ⟨[], none⟩ = some (r21_0, ⟨[], none⟩) := by kernel_rfl
def a21_1 : List AV := [x92]
def r21_1 : AV := (.tuple [x127, (.bool true)])
set_option maxRecDepth 1000000 in
theorem e21_1 : callD o3 ft 400 21 a21_1 ⟨[], none⟩ = some (r21_1, ⟨[], none⟩) := by kernel_rfl
def a21_2 : List AV := [x34]
def r21_2 : AV := (.tuple [x122, (.bool true)])
set_option maxRecDepth 1000000 in
theorem e21_2 : callD o3 ft 400 21 a21_2 ⟨[], none⟩ = some (r21_2, ⟨[], none⟩) := by kernel_rfl
def a21_3 : List AV := [x0]
def r21_3 : AV := (.tuple [x154, (.bool true)])
set_option maxRecDepth 1000000 in
theorem e21_3 : callD o3 ft 400 21 a21_3 ⟨[], none⟩ = some (r21_3, ⟨[], none⟩) := by kernel_rfl
end Go.Proofs.E
