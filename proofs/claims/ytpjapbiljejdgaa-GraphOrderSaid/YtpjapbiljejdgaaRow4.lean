/- The row of GraphOrder: whatever the input, the law returns true, and its argument reads as before. -/
import Derived.Test.YtpjapbiljejdgaaRows
import Derived.Test.YtpjapbiljejdgaaG11O
import Derived.Test.YtpjapbiljejdgaaAmIn
import Derived.WalkKit
import Derived.ProofKit
import Derived.OpenShut
import Derived.ChangeOld
import Derived.Below
import Derived.SizedLaws
namespace Go.Proofs.Ytpjapbiljejdgaa.graphOrder
set_option linter.unusedSimpArgs false
set_option linter.unusedVariables false
set_option linter.unusedSectionVars false
set_option linter.unnecessarySimpa false
open Go.ChangeShapes Go.WideShapes Go.ChangeAt Go.RowKit
open Go.Am (trod_fits law_calls Fits plainT elemV sim0)
open Go.Proofs.G11 (vI vL)

theorem own : ownKnob Try.prog.godebug = none := by kernel_rfl
theorem laidOut : laidOutB Try.prog = true := by kernel_rfl
theorem plain : [22, 27, 3].all (plainT Try.prog [22, 27, 3]) = true := by kernel_rfl
theorem mixed : Try.prog.follows .mixedOrders = true := by kernel_rfl
theorem size27 : Try.prog.cellsOf 27 = 1 := by kernel_rfl
theorem size3 : Try.prog.cellsOf 3 = 1 := by kernel_rfl

/-- What fits the argument's type is a list of lists of whole numbers. -/
theorem fits_ints {n : Nat} {x : Am.AV} (h : Fits Try.prog n 27 [x]) : ∃ l : List Int, x = vI l ∧ l.length < 9223372036854775808 := by
  obtain ⟨ys, h1, _, h3, h4⟩ := h.slice Try.underlying27
  simp only [List.cons.injEq, and_true] at h1
  subst h1
  have : ∀ ys : List Am.AV, (∀ y, y ∈ ys → ∃ zs, y = elemV zs ∧ zs.length = Try.prog.cellsOf 3 ∧ Fits Try.prog (n - 1) 3 zs) → ∃ l : List Int, ys = l.map (Am.AV.int .i64) := by
    intro ys
    induction ys with
    | nil => intro _; exact ⟨[], rfl⟩
    | cons y ys ih =>
      intro hy
      obtain ⟨l, rfl⟩ := ih fun z hz => hy z (List.mem_cons_of_mem _ hz)
      obtain ⟨zs, rfl, _, hz⟩ := hy y List.mem_cons_self
      obtain ⟨i, rfl, _⟩ := hz.int Try.underlying3
      exact ⟨i :: l, rfl⟩
  obtain ⟨l, rfl⟩ := this ys h4
  rw [Am.maxLen_eq, List.length_map] at h3
  exact ⟨l, by rw [size3], by omega⟩

theorem fits_lists {n : Nat} {x : Am.AV} (h : Fits Try.prog n 22 [x]) : ∃ l : List (List Int), x = vL l ∧ l.length < 9223372036854775808 ∧ ∀ r, r ∈ l → r.length < 9223372036854775808 := by
  obtain ⟨ys, h1, _, h3, h4⟩ := h.slice Try.underlying22
  simp only [List.cons.injEq, and_true] at h1
  subst h1
  have : ∀ ys : List Am.AV, (∀ y, y ∈ ys → ∃ zs, y = elemV zs ∧ zs.length = Try.prog.cellsOf 27 ∧ Fits Try.prog (n - 1) 27 zs) → ∃ l : List (List Int), ys = l.map vI ∧ ∀ r, r ∈ l → r.length < 9223372036854775808 := by
    intro ys
    induction ys with
    | nil => intro _; exact ⟨[], rfl, fun r hr => by cases hr⟩
    | cons y ys ih =>
      intro hy
      obtain ⟨l, rfl, hl⟩ := ih fun z hz => hy z (List.mem_cons_of_mem _ hz)
      obtain ⟨zs, rfl, hzl, hz⟩ := hy y List.mem_cons_self
      rw [size27] at hzl
      obtain ⟨z, rfl⟩ : ∃ z, zs = [z] := by
        match zs, hzl with
        | [z], _ => exact ⟨z, rfl⟩
      obtain ⟨r, rfl, hr⟩ := fits_ints hz
      refine ⟨r :: l, rfl, fun q hq => ?_⟩
      rcases List.mem_cons.1 hq with rfl | hq
      · exact hr
      · exact hl q hq
  obtain ⟨l, rfl, hl⟩ := this ys h4
  rw [Am.maxLen_eq, List.length_map] at h3
  exact ⟨l, by rw [size27], by omega, hl⟩

set_option maxRecDepth 100000 in
theorem lifted (os : Os) (started : os.Started) (H : Type) (enc : TypeId × Value → H) :
    ReturnsInHanded {} Try.checked os 4 .any (Rows.graphOrderSpec.pre6 enc Try.prog Try.f4 Rows.graphOrderRow.domain false) (Rows.graphOrderSpec.post enc Try.prog Try.f4 false true false false) := by
  refine returnsInHanded_of_change_sized (C := Try.checked) own started (by kernel_rfl) Try.func4
    (ChangeSpec.witness6 (enc := enc) (C := Try.checked) false ⟨#[], #[.slice none 0 0], []⟩ 8 (by kernel_rfl) (by kernel_rfl) (by kernel_rfl) (by kernel_rfl)) ?_
  intro W base args ds gs before hval0 hW hcnd hsz0 _
  have hsz : (DataW.weightsEach Try.prog (Try.f4.params.toList ++ Rows.graphOrderSpec.plain.varTypes Try.prog) (ds ++ gs)).all (· ≤ reachBytes) = true := hsz0
  have hval : ∀ (j : Nat) t v, Try.f4.params[j]? = some t → args[j]? = some v → Value.okWide Try.prog W .any base t v := hval0
  have hW' := hW
  obtain ⟨p, q, hA0, hV, rfl, hfz, hnd⟩ := hW
  have hA : DataW.TrodAll enc Try.prog W 0 (fun _ => true) true Try.f4.params.toList args.toList ds p := hA0
  rw [Try.params4] at hA hval hsz
  obtain ⟨v0, vs0, d0, ds0, p0, q0, hargs, rfl, rfl, h0, r0⟩ := trodAll_cons hA
  obtain ⟨rfl, rfl, rfl⟩ := trodAll_nil r0
  obtain rfl : args = #[v0] := by cases args; simp_all
  obtain ⟨rfl, rfl⟩ := trodVars_none hV
  obtain ⟨a0, len0, cap0, rfl⟩ := okWide_slice Try.underlying22 (hval 0 22 v0 rfl rfl)
  have k0 := h0
  have lt0 : ∀ x ∈ p0, x.block < W.heap.size := by obtain ⟨m, hm⟩ := k0; exact DataW.trod_lt m _ _ _ hm
  obtain ⟨fuel, hf⟩ := h0
  obtain ⟨xs, x1, x2, x3⟩ := trod_fits plain fuel 22 _ _ (by simp) hf (fun q hq => by
    have h1 := List.all_eq_true.1 hsz q (by
      simp only [List.cons_append, List.nil_append, DataW.weightsEach]
      exact List.mem_append_left _ hq)
    simpa using h1)
  obtain ⟨x, rfl⟩ : ∃ x, xs = [x] := by
    simp [Value.cells] at x1
    match xs, x1 with
    | [x], _ => exact ⟨x, rfl⟩
  obtain ⟨l, rfl, hl1, hl2⟩ := fits_lists x3
  have hx := (x2 0 (vL l) (.slice a0 len0 cap0) rfl rfl).1
  clear hA0 hval0 hsz0 hsz
  refine (law_calls (vs := [.slice a0 len0 cap0]) mixed Go.Proofs.G11.hT Go.Proofs.G11.hO (by decide) (Go.Proofs.G11.call4 l hl1 hl2) rfl (fun i y v hy hv => by
    cases i with
    | zero => simp only [List.getElem?_cons_zero, Option.some.injEq] at hy hv; subst hy; subst hv; exact hx
    | succ i => simp at hy)).mono fun e W' ⟨he, bel⟩ => ?_
  subst he
  exact ⟨_, rfl, _, _, _, [], _, [], hW', trodAll_mk1 (shut_bool Try.underlying4 _), (trodAll_cons_mk (Below.trod laidOut (by kernel_rfl) (of_decide_eq_true (by kernel_rfl)) k0 bel lt0) trodAll_mk0), rfl, bel.frame _, fun h => by cases h⟩

theorem over : Rows.graphOrderRow.holds Try.pinned (OpenSpec.ofChange Rows.graphOrderSpec) :=
  OpenClaim.holds_of_wide 4 Try.f4 rfl rfl rfl rfl rfl rfl rfl ⟨rfl, rfl, rfl, rfl, rfl⟩ rfl rfl rfl rfl rfl (by kernel_rfl) Try.func4 (by kernel_rfl)
    (of_decide_eq_true (by kernel_rfl)) (by unfold Func.isWrapper; first | (rw [if_pos (by decide +kernel)]; kernel_rfl) | (rw [if_neg (by decide +kernel)]; exact ⟨rfl, rfl⟩))
    (fun os started H enc _ => lifted os started H enc)
end Go.Proofs.Ytpjapbiljejdgaa.graphOrder
namespace Go.Proofs.Ytpjapbiljejdgaa
/-- The row, under a short name, for the claim. -/
theorem graphOrder_holds : Rows.GraphOrderSaid := graphOrder.over
#print axioms graphOrder_holds
end Go.Proofs.Ytpjapbiljejdgaa
