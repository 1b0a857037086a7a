
import Derived.Test.YtjkpoaijmbapiaaGreatDoorEV3m
set_option linter.all false
namespace Go.Proofs.E
set_option linter.all false
open Go Go.Am
def a49_3 : List AV := [(.ptr 8 0 0)]
def r49_3 : AV := (.bool true)
set_option maxRecDepth 1000000 in
theorem e49_3 : callD o2 ft 400 49 a49_3 ⟨m25, (some 2)⟩ = some (r49_3, ⟨m26, (some 2)⟩) := by kernel_rfl
def a49_5 : List AV := [(.ptr 8 0 0)]
def r49_5 : AV := (.bool false)
set_option maxRecDepth 1000000 in
theorem e49_5 : callD o2 ft 400 49 a49_5 ⟨m28, (some 2)⟩ = some (r49_5, ⟨m29, (some 2)⟩) := by kernel_rfl
end Go.Proofs.E
set_option linter.all false
namespace Go.Proofs.E
set_option linter.all false
open Go Go.Am
def a45_3 : List AV := [x154]
def r45_3 : AV := (.tuple [(I 0), (I 0)])
set_option maxRecDepth 1000000 in
theorem e45_3 : callD o2 ft 400 45 a45_3 ⟨[], none⟩ = some (r45_3, ⟨[], none⟩) := by kernel_rfl
def a49_4 : List AV := [(.ptr 8 0 0)]
def r49_4 : AV := (.bool true)
set_option maxRecDepth 1000000 in
theorem e49_4 : callD o2 ft 400 49 a49_4 ⟨m26, (some 2)⟩ = some (r49_4, ⟨m27, (some 2)⟩) := by kernel_rfl
end Go.Proofs.E
