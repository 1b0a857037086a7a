
import Derived.Test.YtjkpoaijmbapiaaGreatDoorEV3a
import Derived.Test.YtjkpoaijmbapiaaGreatDoorEV3b
import Derived.Test.YtjkpoaijmbapiaaGreatDoorEV3e
set_option linter.all false
namespace Go.Proofs.E
set_option linter.all false
open Go Go.Am
def t45 : List (List AV × AV) := [(a45_0, r45_0), (a45_1, r45_1), (a45_2, r45_2), (a45_3, r45_3)]
theorem v45 : ∀ p ∈ t45, AV.underAll 0 p.1 = true ∧ ∃ n b, callD o2 ft n 45 p.1 ⟨[], none⟩ = some (p.2, ⟨[], b⟩) := by
  unfold t45
  simp only [List.mem_cons, List.not_mem_nil, or_false, forall_eq_or_imp, forall_eq]
  exact ⟨⟨by kernel_rfl, 400, none, e45_0⟩, ⟨by kernel_rfl, 400, none, e45_1⟩, ⟨by kernel_rfl, 400, none, e45_2⟩, ⟨by kernel_rfl, 400, none, e45_3⟩⟩
def t42 : List (List AV × AV) := [(a42_0, r42_0), (a42_1, r42_1), (a42_2, r42_2), (a42_3, r42_3), (a42_4, r42_4), (a42_5, r42_5), (a42_6, r42_6), (a42_7, r42_7)]
theorem v42 : ∀ p ∈ t42, AV.underAll 0 p.1 = true ∧ ∃ n b, callD o2 ft n 42 p.1 ⟨[], none⟩ = some (p.2, ⟨[], b⟩) := by
  unfold t42
  simp only [List.mem_cons, List.not_mem_nil, or_false, forall_eq_or_imp, forall_eq]
  exact ⟨⟨by kernel_rfl, 400, none, e42_0⟩, ⟨by kernel_rfl, 400, none, e42_1⟩, ⟨by kernel_rfl, 400, none, e42_2⟩, ⟨by kernel_rfl, 400, none, e42_3⟩, ⟨by kernel_rfl, 400, none, e42_4⟩, ⟨by kernel_rfl, 400, none, e42_5⟩, ⟨by kernel_rfl, 400, none, e42_6⟩, ⟨by kernel_rfl, 400, none, e42_7⟩⟩
def t49 : List ((List AV × Mem) × AV × Mem) := [((a49_0, ⟨m20, (some 2)⟩), r49_0, ⟨m21, (some 2)⟩), ((a49_1, ⟨m22, (some 2)⟩), r49_1, ⟨m23, (some 2)⟩), ((a49_2, ⟨m23, (some 2)⟩), r49_2, ⟨m24, (some 2)⟩), ((a49_3, ⟨m25, (some 2)⟩), r49_3, ⟨m26, (some 2)⟩), ((a49_4, ⟨m26, (some 2)⟩), r49_4, ⟨m27, (some 2)⟩), ((a49_5, ⟨m28, (some 2)⟩), r49_5, ⟨m29, (some 2)⟩)]
theorem v49 : ∀ p ∈ t49, ∃ n, callD o2 ft n 49 p.1.1 p.1.2 = some p.2 := by
  unfold t49
  simp only [List.mem_cons, List.not_mem_nil, or_false, forall_eq_or_imp, forall_eq]
  exact ⟨⟨400, e49_0⟩, ⟨400, e49_1⟩, ⟨400, e49_2⟩, ⟨400, e49_3⟩, ⟨400, e49_4⟩, ⟨400, e49_5⟩⟩
def t10 : List ((List AV × Mem) × AV × Mem) := [((a10_0, ⟨m30, (some 5)⟩), r10_0, ⟨m30, (some 5)⟩)]
theorem v10 : ∀ p ∈ t10, ∃ n, callD o2 ft n 10 p.1.1 p.1.2 = some p.2 := by
  unfold t10
  simp only [List.mem_cons, List.not_mem_nil, or_false, forall_eq_or_imp, forall_eq]
  exact ⟨400, e10_0⟩
noncomputable def o3 : Orc := (Orc.put (Orc.put (Orc.put (Orc.put o2 45 (orcT t45)) 42 (orcT t42)) 49 (orcM t49)) 10 (orcM t10))
theorem n3 : ∀ f, ft.get f = none → ∀ args M, o3 f args M = none := (orcs_put_none (orcs_put_none (orcs_put_none (orcs_put_none n2 (by kernel_rfl)) (by kernel_rfl)) (by kernel_rfl)) (by kernel_rfl))
theorem ok3 : OrcsOk Tryz.prog tabs o3 ft := (orcs_tableM mixed ft_ok n2 ok2 (orcs_tableM mixed ft_ok n2 ok2 (orcs_table2 mixed ft_ok n2 ok2 (orcs_table2 mixed ft_ok n2 ok2 ok2 (by decide) v45) (by decide) v42) (by decide) v49) (by decide) v10)
end Go.Proofs.E
