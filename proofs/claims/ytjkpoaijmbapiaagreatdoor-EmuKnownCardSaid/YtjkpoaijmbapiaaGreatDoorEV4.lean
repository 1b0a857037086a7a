
import Derived.Test.YtjkpoaijmbapiaaGreatDoorEV4a
set_option linter.all false
namespace Go.Proofs.E
set_option linter.all false
open Go Go.Am
def t21 : List (List AV × AV) := [(a21_0, r21_0), (a21_1, r21_1), (a21_2, r21_2), (a21_3, r21_3)]
theorem v21 : ∀ p ∈ t21, AV.underAll 0 p.1 = true ∧ ∃ n b, callD o3 ft n 21 p.1 ⟨[], none⟩ = some (p.2, ⟨[], b⟩) := by
  unfold t21
  simp only [List.mem_cons, List.not_mem_nil, or_false, forall_eq_or_imp, forall_eq]
  exact ⟨⟨by kernel_rfl, 400, none, e21_0⟩, ⟨by kernel_rfl, 400, none, e21_1⟩, ⟨by kernel_rfl, 400, none, e21_2⟩, ⟨by kernel_rfl, 400, none, e21_3⟩⟩
def t22 : List (List AV × AV) := [(a22_0, r22_0), (a22_1, r22_1), (a22_2, r22_2), (a22_3, r22_3)]
theorem v22 : ∀ p ∈ t22, AV.underAll 0 p.1 = true ∧ ∃ n b, callD o3 ft n 22 p.1 ⟨[], none⟩ = some (p.2, ⟨[], b⟩) := by
  unfold t22
  simp only [List.mem_cons, List.not_mem_nil, or_false, forall_eq_or_imp, forall_eq]
  exact ⟨⟨by kernel_rfl, 400, none, e22_0⟩, ⟨by kernel_rfl, 400, none, e22_1⟩, ⟨by kernel_rfl, 400, none, e22_2⟩, ⟨by kernel_rfl, 400, none, e22_3⟩⟩
def t24 : List (List AV × AV) := [(a24_0, r24_0), (a24_1, r24_1), (a24_2, r24_2), (a24_3, r24_3)]
theorem v24 : ∀ p ∈ t24, AV.underAll 0 p.1 = true ∧ ∃ n b, callD o3 ft n 24 p.1 ⟨[], none⟩ = some (p.2, ⟨[], b⟩) := by
  unfold t24
  simp only [List.mem_cons, List.not_mem_nil, or_false, forall_eq_or_imp, forall_eq]
  exact ⟨⟨by kernel_rfl, 400, none, e24_0⟩, ⟨by kernel_rfl, 400, none, e24_1⟩, ⟨by kernel_rfl, 400, none, e24_2⟩, ⟨by kernel_rfl, 400, none, e24_3⟩⟩
noncomputable def o4 : Orc := (Orc.put (Orc.put (Orc.put o3 21 (orcT t21)) 22 (orcT t22)) 24 (orcT t24))
theorem n4 : ∀ f, ft.get f = none → ∀ args M, o4 f args M = none := (orcs_put_none (orcs_put_none (orcs_put_none n3 (by kernel_rfl)) (by kernel_rfl)) (by kernel_rfl))
theorem ok4 : OrcsOk Tryz.prog tabs o4 ft := (orcs_table2 mixed ft_ok n3 ok3 (orcs_table2 mixed ft_ok n3 ok3 (orcs_table2 mixed ft_ok n3 ok3 ok3 (by decide) v21) (by decide) v22) (by decide) v24)
end Go.Proofs.E
