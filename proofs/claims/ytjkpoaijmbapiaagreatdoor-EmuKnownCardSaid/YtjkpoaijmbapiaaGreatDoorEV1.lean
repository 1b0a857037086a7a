
import Derived.Test.YtjkpoaijmbapiaaGreatDoorEV1a
import Derived.Test.YtjkpoaijmbapiaaGreatDoorEV1b
import Derived.Test.YtjkpoaijmbapiaaGreatDoorEV1c
import Derived.Test.YtjkpoaijmbapiaaGreatDoorEV1d
set_option linter.all false
namespace Go.Proofs.E
set_option linter.all false
open Go Go.Am
def t27 : List (List AV × AV) := [(a27_0, r27_0)]
theorem v27 : ∀ p ∈ t27, AV.underAll 0 p.1 = true ∧ ∃ n b, callD o0 ft n 27 p.1 ⟨[], none⟩ = some (p.2, ⟨[], b⟩) := by
  unfold t27
  simp only [List.mem_cons, List.not_mem_nil, or_false, forall_eq_or_imp, forall_eq]
  exact ⟨by kernel_rfl, 400, none, e27_0⟩
def t17 : List (List AV × AV) := [(a17_0, r17_0), (a17_1, r17_1), (a17_2, r17_2), (a17_3, r17_3), (a17_4, r17_4), (a17_5, r17_5), (a17_6, r17_6), (a17_7, r17_7), (a17_8, r17_8), (a17_9, r17_9), (a17_10, r17_10)]
theorem v17 : ∀ p ∈ t17, AV.underAll 0 p.1 = true ∧ ∃ n b, callD o0 ft n 17 p.1 ⟨[], none⟩ = some (p.2, ⟨[], b⟩) := by
  unfold t17
  simp only [List.mem_cons, List.not_mem_nil, or_false, forall_eq_or_imp, forall_eq]
  exact ⟨⟨by kernel_rfl, 400, none, e17_0⟩, ⟨by kernel_rfl, 400, none, e17_1⟩, ⟨by kernel_rfl, 400, none, e17_2⟩, ⟨by kernel_rfl, 400, none, e17_3⟩, ⟨by kernel_rfl, 400, none, e17_4⟩, ⟨by kernel_rfl, 400, none, e17_5⟩, ⟨by kernel_rfl, 400, none, e17_6⟩, ⟨by kernel_rfl, 400, none, e17_7⟩, ⟨by kernel_rfl, 400, none, e17_8⟩, ⟨by kernel_rfl, 400, none, e17_9⟩, ⟨by kernel_rfl, 400, none, e17_10⟩⟩
def t117 : List (List AV × AV) := [(a117_0, r117_0), (a117_1, r117_1), (a117_2, r117_2), (a117_3, r117_3), (a117_4, r117_4), (a117_5, r117_5), (a117_6, r117_6), (a117_7, r117_7), (a117_8, r117_8), (a117_9, r117_9), (a117_10, r117_10), (a117_11, r117_11), (a117_12, r117_12), (a117_13, r117_13), (a117_14, r117_14), (a117_15, r117_15), (a117_16, r117_16), (a117_17, r117_17), (a117_18, r117_18), (a117_19, r117_19), (a117_20, r117_20), (a117_21, r117_21), (a117_22, r117_22), (a117_23, r117_23)]
theorem v117 : ∀ p ∈ t117, AV.underAll 0 p.1 = true ∧ ∃ n b, callD o0 ft n 117 p.1 ⟨[], none⟩ = some (p.2, ⟨[], b⟩) := by
  unfold t117
  simp only [List.mem_cons, List.not_mem_nil, or_false, forall_eq_or_imp, forall_eq]
  exact ⟨⟨by kernel_rfl, 400, none, e117_0⟩, ⟨by kernel_rfl, 400, none, e117_1⟩, ⟨by kernel_rfl, 400, none, e117_2⟩, ⟨by kernel_rfl, 400, none, e117_3⟩, ⟨by kernel_rfl, 400, none, e117_4⟩, ⟨by kernel_rfl, 400, none, e117_5⟩, ⟨by kernel_rfl, 400, none, e117_6⟩, ⟨by kernel_rfl, 400, none, e117_7⟩, ⟨by kernel_rfl, 400, none, e117_8⟩, ⟨by kernel_rfl, 400, none, e117_9⟩, ⟨by kernel_rfl, 400, none, e117_10⟩, ⟨by kernel_rfl, 400, none, e117_11⟩, ⟨by kernel_rfl, 400, none, e117_12⟩, ⟨by kernel_rfl, 400, none, e117_13⟩, ⟨by kernel_rfl, 400, none, e117_14⟩, ⟨by kernel_rfl, 400, none, e117_15⟩, ⟨by kernel_rfl, 400, none, e117_16⟩, ⟨by kernel_rfl, 400, none, e117_17⟩, ⟨by kernel_rfl, 400, none, e117_18⟩, ⟨by kernel_rfl, 400, none, e117_19⟩, ⟨by kernel_rfl, 400, none, e117_20⟩, ⟨by kernel_rfl, 400, none, e117_21⟩, ⟨by kernel_rfl, 400, none, e117_22⟩, ⟨by kernel_rfl, 400, none, e117_23⟩⟩
def t247 : List (List AV × AV) := [(a247_0, r247_0), (a247_1, r247_1), (a247_2, r247_2), (a247_3, r247_3), (a247_4, r247_4), (a247_5, r247_5), (a247_6, r247_6), (a247_7, r247_7), (a247_8, r247_8), (a247_9, r247_9), (a247_10, r247_10), (a247_11, r247_11)]
theorem v247 : ∀ p ∈ t247, AV.underAll 0 p.1 = true ∧ ∃ n b, callD o0 ft n 247 p.1 ⟨[], none⟩ = some (p.2, ⟨[], b⟩) := by
  unfold t247
  simp only [List.mem_cons, List.not_mem_nil, or_false, forall_eq_or_imp, forall_eq]
  exact ⟨⟨by kernel_rfl, 400, none, e247_0⟩, ⟨by kernel_rfl, 400, none, e247_1⟩, ⟨by kernel_rfl, 400, none, e247_2⟩, ⟨by kernel_rfl, 400, none, e247_3⟩, ⟨by kernel_rfl, 400, none, e247_4⟩, ⟨by kernel_rfl, 400, none, e247_5⟩, ⟨by kernel_rfl, 400, none, e247_6⟩, ⟨by kernel_rfl, 400, none, e247_7⟩, ⟨by kernel_rfl, 400, none, e247_8⟩, ⟨by kernel_rfl, 400, none, e247_9⟩, ⟨by kernel_rfl, 400, none, e247_10⟩, ⟨by kernel_rfl, 400, none, e247_11⟩⟩
def t136 : List (List AV × AV) := [(a136_0, r136_0), (a136_1, r136_1), (a136_2, r136_2), (a136_3, r136_3), (a136_4, r136_4), (a136_5, r136_5), (a136_6, r136_6), (a136_7, r136_7), (a136_8, r136_8), (a136_9, r136_9), (a136_10, r136_10), (a136_11, r136_11), (a136_12, r136_12), (a136_13, r136_13), (a136_14, r136_14)]
theorem v136 : ∀ p ∈ t136, AV.underAll 0 p.1 = true ∧ ∃ n b, callD o0 ft n 136 p.1 ⟨[], none⟩ = some (p.2, ⟨[], b⟩) := by
  unfold t136
  simp only [List.mem_cons, List.not_mem_nil, or_false, forall_eq_or_imp, forall_eq]
  exact ⟨⟨by kernel_rfl, 400, none, e136_0⟩, ⟨by kernel_rfl, 400, none, e136_1⟩, ⟨by kernel_rfl, 400, none, e136_2⟩, ⟨by kernel_rfl, 400, none, e136_3⟩, ⟨by kernel_rfl, 400, none, e136_4⟩, ⟨by kernel_rfl, 400, none, e136_5⟩, ⟨by kernel_rfl, 400, none, e136_6⟩, ⟨by kernel_rfl, 400, none, e136_7⟩, ⟨by kernel_rfl, 400, none, e136_8⟩, ⟨by kernel_rfl, 400, none, e136_9⟩, ⟨by kernel_rfl, 400, none, e136_10⟩, ⟨by kernel_rfl, 400, none, e136_11⟩, ⟨by kernel_rfl, 400, none, e136_12⟩, ⟨by kernel_rfl, 400, none, e136_13⟩, ⟨by kernel_rfl, 400, none, e136_14⟩⟩
def t47 : List (List AV × AV) := [(a47_0, r47_0), (a47_1, r47_1), (a47_2, r47_2), (a47_3, r47_3)]
theorem v47 : ∀ p ∈ t47, AV.underAll 0 p.1 = true ∧ ∃ n b, callD o0 ft n 47 p.1 ⟨[], none⟩ = some (p.2, ⟨[], b⟩) := by
  unfold t47
  simp only [List.mem_cons, List.not_mem_nil, or_false, forall_eq_or_imp, forall_eq]
  exact ⟨⟨by kernel_rfl, 400, none, e47_0⟩, ⟨by kernel_rfl, 400, none, e47_1⟩, ⟨by kernel_rfl, 400, none, e47_2⟩, ⟨by kernel_rfl, 400, none, e47_3⟩⟩
def t13 : List (List AV × AV) := [(a13_0, r13_0), (a13_1, r13_1)]
theorem v13 : ∀ p ∈ t13, AV.underAll 0 p.1 = true ∧ ∃ n b, callD o0 ft n 13 p.1 ⟨[], none⟩ = some (p.2, ⟨[], b⟩) := by
  unfold t13
  simp only [List.mem_cons, List.not_mem_nil, or_false, forall_eq_or_imp, forall_eq]
  exact ⟨⟨by kernel_rfl, 400, none, e13_0⟩, ⟨by kernel_rfl, 400, none, e13_1⟩⟩
def t166 : List (List AV × AV) := [(a166_0, r166_0), (a166_1, r166_1), (a166_2, r166_2), (a166_3, r166_3), (a166_4, r166_4), (a166_5, r166_5), (a166_6, r166_6), (a166_7, r166_7)]
theorem v166 : ∀ p ∈ t166, AV.underAll 0 p.1 = true ∧ ∃ n b, callD o0 ft n 166 p.1 ⟨[], none⟩ = some (p.2, ⟨[], b⟩) := by
  unfold t166
  simp only [List.mem_cons, List.not_mem_nil, or_false, forall_eq_or_imp, forall_eq]
  exact ⟨⟨by kernel_rfl, 400, none, e166_0⟩, ⟨by kernel_rfl, 400, none, e166_1⟩, ⟨by kernel_rfl, 400, none, e166_2⟩, ⟨by kernel_rfl, 400, none, e166_3⟩, ⟨by kernel_rfl, 400, none, e166_4⟩, ⟨by kernel_rfl, 400, none, e166_5⟩, ⟨by kernel_rfl, 400, none, e166_6⟩, ⟨by kernel_rfl, 400, none, e166_7⟩⟩
def t114 : List (List AV × AV) := [(a114_0, r114_0), (a114_1, r114_1), (a114_2, r114_2), (a114_3, r114_3), (a114_4, r114_4), (a114_5, r114_5), (a114_6, r114_6), (a114_7, r114_7)]
theorem v114 : ∀ p ∈ t114, AV.underAll 0 p.1 = true ∧ ∃ n b, callD o0 ft n 114 p.1 ⟨[], none⟩ = some (p.2, ⟨[], b⟩) := by
  unfold t114
  simp only [List.mem_cons, List.not_mem_nil, or_false, forall_eq_or_imp, forall_eq]
  exact ⟨⟨by kernel_rfl, 400, none, e114_0⟩, ⟨by kernel_rfl, 400, none, e114_1⟩, ⟨by kernel_rfl, 400, none, e114_2⟩, ⟨by kernel_rfl, 400, none, e114_3⟩, ⟨by kernel_rfl, 400, none, e114_4⟩, ⟨by kernel_rfl, 400, none, e114_5⟩, ⟨by kernel_rfl, 400, none, e114_6⟩, ⟨by kernel_rfl, 400, none, e114_7⟩⟩
noncomputable def o1 : Orc := (Orc.put (Orc.put (Orc.put (Orc.put (Orc.put (Orc.put (Orc.put (Orc.put (Orc.put o0 27 (orcT t27)) 17 (orcT t17)) 117 (orcT t117)) 247 (orcT t247)) 136 (orcT t136)) 47 (orcT t47)) 13 (orcT t13)) 166 (orcT t166)) 114 (orcT t114))
theorem n1 : ∀ f, ft.get f = none → ∀ args M, o1 f args M = none := (orcs_put_none (orcs_put_none (orcs_put_none (orcs_put_none (orcs_put_none (orcs_put_none (orcs_put_none (orcs_put_none (orcs_put_none n0 (by kernel_rfl)) (by kernel_rfl)) (by kernel_rfl)) (by kernel_rfl)) (by kernel_rfl)) (by kernel_rfl)) (by kernel_rfl)) (by kernel_rfl)) (by kernel_rfl))
theorem ok1 : OrcsOk Tryz.prog tabs o1 ft := (orcs_table2 mixed ft_ok n0 ok0 (orcs_table2 mixed ft_ok n0 ok0 (orcs_table2 mixed ft_ok n0 ok0 (orcs_table2 mixed ft_ok n0 ok0 (orcs_table2 mixed ft_ok n0 ok0 (orcs_table2 mixed ft_ok n0 ok0 (orcs_table2 mixed ft_ok n0 ok0 (orcs_table2 mixed ft_ok n0 ok0 (orcs_table2 mixed ft_ok n0 ok0 ok0 (by decide) v27) (by decide) v17) (by decide) v117) (by decide) v247) (by decide) v136) (by decide) v47) (by decide) v13) (by decide) v166) (by decide) v114)
end Go.Proofs.E
