
import Derived.Test.YtjkpoaijmbapiaaGreatDoorEV5a
set_option linter.all false
namespace Go.Proofs.E
set_option linter.all false
open Go Go.Am
def t12 : List (List AV × AV) := [(a12_0, r12_0), (a12_1, r12_1), (a12_2, r12_2), (a12_3, r12_3)]
theorem v12 : ∀ p ∈ t12, AV.underAll 0 p.1 = true ∧ ∃ n b, callD o4 ft n 12 p.1 ⟨[], none⟩ = some (p.2, ⟨[], b⟩) := by
  unfold t12
  simp only [List.mem_cons, List.not_mem_nil, or_false, forall_eq_or_imp, forall_eq]
  exact ⟨⟨by kernel_rfl, 400, none, e12_0⟩, ⟨by kernel_rfl, 400, none, e12_1⟩, ⟨by kernel_rfl, 400, none, e12_2⟩, ⟨by kernel_rfl, 400, none, e12_3⟩⟩
noncomputable def o5 : Orc := (Orc.put o4 12 (orcT t12))
theorem n5 : ∀ f, ft.get f = none → ∀ args M, o5 f args M = none := (orcs_put_none n4 (by kernel_rfl))
theorem ok5 : OrcsOk Tryz.prog tabs o5 ft := (orcs_table2 mixed ft_ok n4 ok4 ok4 (by decide) v12)
end Go.Proofs.E
set_option linter.all false
namespace Go.Proofs.E
set_option linter.all false
open Go Go.Am
set_option maxRecDepth 1000000 in
theorem eroot : callD o5 ft 400 3 [] ⟨[], none⟩ = some (.bool true, ⟨[], none⟩) := by kernel_rfl
end Go.Proofs.E
