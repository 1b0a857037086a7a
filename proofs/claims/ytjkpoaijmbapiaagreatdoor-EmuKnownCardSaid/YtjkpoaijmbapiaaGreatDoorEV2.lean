
import Derived.Test.YtjkpoaijmbapiaaGreatDoorEV2a
import Derived.Test.YtjkpoaijmbapiaaGreatDoorEV2b
import Derived.Test.YtjkpoaijmbapiaaGreatDoorEV2c
import Derived.Test.YtjkpoaijmbapiaaGreatDoorEV2d
set_option linter.all false
namespace Go.Proofs.E
set_option linter.all false
open Go Go.Am
def t15 : List (List AV × AV) := [(a15_0, r15_0), (a15_1, r15_1), (a15_2, r15_2), (a15_3, r15_3), (a15_4, r15_4), (a15_5, r15_5), (a15_6, r15_6), (a15_7, r15_7), (a15_8, r15_8), (a15_9, r15_9), (a15_10, r15_10), (a15_11, r15_11), (a15_12, r15_12), (a15_13, r15_13), (a15_14, r15_14), (a15_15, r15_15), (a15_16, r15_16)]
theorem v15 : ∀ p ∈ t15, AV.underAll 0 p.1 = true ∧ ∃ n b, callD o1 ft n 15 p.1 ⟨[], none⟩ = some (p.2, ⟨[], b⟩) := by
  unfold t15
  simp only [List.mem_cons, List.not_mem_nil, or_false, forall_eq_or_imp, forall_eq]
  exact ⟨⟨by kernel_rfl, 400, none, e15_0⟩, ⟨by kernel_rfl, 400, none, e15_1⟩, ⟨by kernel_rfl, 400, none, e15_2⟩, ⟨by kernel_rfl, 400, none, e15_3⟩, ⟨by kernel_rfl, 400, none, e15_4⟩, ⟨by kernel_rfl, 400, none, e15_5⟩, ⟨by kernel_rfl, 400, none, e15_6⟩, ⟨by kernel_rfl, 400, none, e15_7⟩, ⟨by kernel_rfl, 400, none, e15_8⟩, ⟨by kernel_rfl, 400, none, e15_9⟩, ⟨by kernel_rfl, 400, none, e15_10⟩, ⟨by kernel_rfl, 400, none, e15_11⟩, ⟨by kernel_rfl, 400, none, e15_12⟩, ⟨by kernel_rfl, 400, none, e15_13⟩, ⟨by kernel_rfl, 400, none, e15_14⟩, ⟨by kernel_rfl, 400, none, e15_15⟩, ⟨by kernel_rfl, 400, none, e15_16⟩⟩
def t41 : List (List AV × AV) := [(a41_0, r41_0), (a41_1, r41_1), (a41_2, r41_2), (a41_3, r41_3)]
theorem v41 : ∀ p ∈ t41, AV.underAll 0 p.1 = true ∧ ∃ n b, callD o1 ft n 41 p.1 ⟨[], none⟩ = some (p.2, ⟨[], b⟩) := by
  unfold t41
  simp only [List.mem_cons, List.not_mem_nil, or_false, forall_eq_or_imp, forall_eq]
  exact ⟨⟨by kernel_rfl, 400, none, e41_0⟩, ⟨by kernel_rfl, 400, none, e41_1⟩, ⟨by kernel_rfl, 400, none, e41_2⟩, ⟨by kernel_rfl, 400, none, e41_3⟩⟩
def t110 : List (List AV × AV) := [(a110_0, r110_0), (a110_1, r110_1), (a110_2, r110_2), (a110_3, r110_3)]
theorem v110 : ∀ p ∈ t110, AV.underAll 0 p.1 = true ∧ ∃ n b, callD o1 ft n 110 p.1 ⟨[], none⟩ = some (p.2, ⟨[], b⟩) := by
  unfold t110
  simp only [List.mem_cons, List.not_mem_nil, or_false, forall_eq_or_imp, forall_eq]
  exact ⟨⟨by kernel_rfl, 400, none, e110_0⟩, ⟨by kernel_rfl, 400, none, e110_1⟩, ⟨by kernel_rfl, 400, none, e110_2⟩, ⟨by kernel_rfl, 400, none, e110_3⟩⟩
def t25 : List (List AV × AV) := [(a25_0, r25_0), (a25_1, r25_1), (a25_2, r25_2), (a25_3, r25_3)]
theorem v25 : ∀ p ∈ t25, AV.underAll 0 p.1 = true ∧ ∃ n b, callD o1 ft n 25 p.1 ⟨[], none⟩ = some (p.2, ⟨[], b⟩) := by
  unfold t25
  simp only [List.mem_cons, List.not_mem_nil, or_false, forall_eq_or_imp, forall_eq]
  exact ⟨⟨by kernel_rfl, 400, none, e25_0⟩, ⟨by kernel_rfl, 400, none, e25_1⟩, ⟨by kernel_rfl, 400, none, e25_2⟩, ⟨by kernel_rfl, 400, none, e25_3⟩⟩
def t7 : List (List AV × AV) := [(a7_0, r7_0), (a7_1, r7_1), (a7_2, r7_2), (a7_3, r7_3), (a7_4, r7_4), (a7_5, r7_5), (a7_6, r7_6), (a7_7, r7_7), (a7_8, r7_8), (a7_9, r7_9), (a7_10, r7_10), (a7_11, r7_11), (a7_12, r7_12), (a7_13, r7_13), (a7_14, r7_14), (a7_15, r7_15), (a7_16, r7_16), (a7_17, r7_17), (a7_18, r7_18)]
theorem v7 : ∀ p ∈ t7, AV.underAll 0 p.1 = true ∧ ∃ n b, callD o1 ft n 7 p.1 ⟨[], none⟩ = some (p.2, ⟨[], b⟩) := by
  unfold t7
  simp only [List.mem_cons, List.not_mem_nil, or_false, forall_eq_or_imp, forall_eq]
  exact ⟨⟨by kernel_rfl, 400, none, e7_0⟩, ⟨by kernel_rfl, 400, none, e7_1⟩, ⟨by kernel_rfl, 400, none, e7_2⟩, ⟨by kernel_rfl, 400, none, e7_3⟩, ⟨by kernel_rfl, 400, none, e7_4⟩, ⟨by kernel_rfl, 400, none, e7_5⟩, ⟨by kernel_rfl, 400, none, e7_6⟩, ⟨by kernel_rfl, 400, none, e7_7⟩, ⟨by kernel_rfl, 400, none, e7_8⟩, ⟨by kernel_rfl, 400, none, e7_9⟩, ⟨by kernel_rfl, 400, none, e7_10⟩, ⟨by kernel_rfl, 400, none, e7_11⟩, ⟨by kernel_rfl, 400, none, e7_12⟩, ⟨by kernel_rfl, 400, none, e7_13⟩, ⟨by kernel_rfl, 400, none, e7_14⟩, ⟨by kernel_rfl, 400, none, e7_15⟩, ⟨by kernel_rfl, 400, none, e7_16⟩, ⟨by kernel_rfl, 400, none, e7_17⟩, ⟨by kernel_rfl, 400, none, e7_18⟩⟩
def t138 : List ((List AV × Mem) × AV × Mem) := [((a138_0, ⟨m0, none⟩), r138_0, ⟨m1, (some 123)⟩), ((a138_1, ⟨m2, none⟩), r138_1, ⟨m3, (some 123)⟩)]
theorem v138 : ∀ p ∈ t138, ∃ n, callD o1 ft n 138 p.1.1 p.1.2 = some p.2 := by
  unfold t138
  simp only [List.mem_cons, List.not_mem_nil, or_false, forall_eq_or_imp, forall_eq]
  exact ⟨⟨400, e138_0⟩, ⟨400, e138_1⟩⟩
def t135 : List ((List AV × Mem) × AV × Mem) := [((a135_0, ⟨m4, none⟩), r135_0, ⟨m4, none⟩), ((a135_1, ⟨m5, none⟩), r135_1, ⟨m5, none⟩), ((a135_2, ⟨m6, none⟩), r135_2, ⟨m6, none⟩), ((a135_3, ⟨m7, none⟩), r135_3, ⟨m7, none⟩)]
theorem v135 : ∀ p ∈ t135, ∃ n, callD o1 ft n 135 p.1.1 p.1.2 = some p.2 := by
  unfold t135
  simp only [List.mem_cons, List.not_mem_nil, or_false, forall_eq_or_imp, forall_eq]
  exact ⟨⟨400, e135_0⟩, ⟨400, e135_1⟩, ⟨400, e135_2⟩, ⟨400, e135_3⟩⟩
def t14 : List ((List AV × Mem) × AV × Mem) := [((a14_0, ⟨m8, none⟩), r14_0, ⟨m8, none⟩), ((a14_1, ⟨m9, none⟩), r14_1, ⟨m9, none⟩)]
theorem v14 : ∀ p ∈ t14, ∃ n, callD o1 ft n 14 p.1.1 p.1.2 = some p.2 := by
  unfold t14
  simp only [List.mem_cons, List.not_mem_nil, or_false, forall_eq_or_imp, forall_eq]
  exact ⟨⟨400, e14_0⟩, ⟨400, e14_1⟩⟩
def t148 : List ((List AV × Mem) × AV × Mem) := [((a148_0, ⟨m10, none⟩), r148_0, ⟨m11, (some 7)⟩), ((a148_1, ⟨m12, none⟩), r148_1, ⟨m13, (some 46)⟩), ((a148_2, ⟨m14, none⟩), r148_2, ⟨m15, (some 123)⟩), ((a148_3, ⟨m16, none⟩), r148_3, ⟨m17, (some 123)⟩), ((a148_4, ⟨m18, none⟩), r148_4, ⟨m19, (some 123)⟩)]
theorem v148 : ∀ p ∈ t148, ∃ n, callD o1 ft n 148 p.1.1 p.1.2 = some p.2 := by
  unfold t148
  simp only [List.mem_cons, List.not_mem_nil, or_false, forall_eq_or_imp, forall_eq]
  exact ⟨⟨400, e148_0⟩, ⟨400, e148_1⟩, ⟨400, e148_2⟩, ⟨400, e148_3⟩, ⟨400, e148_4⟩⟩
noncomputable def o2 : Orc := (Orc.put (Orc.put (Orc.put (Orc.put (Orc.put (Orc.put (Orc.put (Orc.put (Orc.put o1 15 (orcT t15)) 41 (orcT t41)) 110 (orcT t110)) 25 (orcT t25)) 7 (orcT t7)) 138 (orcM t138)) 135 (orcM t135)) 14 (orcM t14)) 148 (orcM t148))
theorem n2 : ∀ f, ft.get f = none → ∀ args M, o2 f args M = none := (orcs_put_none (orcs_put_none (orcs_put_none (orcs_put_none (orcs_put_none (orcs_put_none (orcs_put_none (orcs_put_none (orcs_put_none n1 (by kernel_rfl)) (by kernel_rfl)) (by kernel_rfl)) (by kernel_rfl)) (by kernel_rfl)) (by kernel_rfl)) (by kernel_rfl)) (by kernel_rfl)) (by kernel_rfl))
theorem ok2 : OrcsOk Tryz.prog tabs o2 ft := (orcs_tableM mixed ft_ok n1 ok1 (orcs_tableM mixed ft_ok n1 ok1 (orcs_tableM mixed ft_ok n1 ok1 (orcs_tableM mixed ft_ok n1 ok1 (orcs_table2 mixed ft_ok n1 ok1 (orcs_table2 mixed ft_ok n1 ok1 (orcs_table2 mixed ft_ok n1 ok1 (orcs_table2 mixed ft_ok n1 ok1 (orcs_table2 mixed ft_ok n1 ok1 ok1 (by decide) v15) (by decide) v41) (by decide) v110) (by decide) v25) (by decide) v7) (by decide) v138) (by decide) v135) (by decide) v14) (by decide) v148)
end Go.Proofs.E
