/- The row of PairsGrow: whatever the input, the law returns true, and its arguments read as before. -/
import Derived.Test.YtdddcofggemnkaaRows
import Derived.Test.YtdddcofggemnkaaP17V23
import Derived.Test.YtdddcofggemnkaaShelf
import Derived.Test.YtdddcofggemnkaaAmIn
import Derived.WalkKit
import Derived.ProofKit
import Derived.OpenShut
import Derived.ChangeOld
import Derived.Below
import Derived.SizedLaws
namespace Go.Proofs.Ytdddcofggemnkaa.pairsGrow
set_option linter.all false
open Go.ChangeShapes Go.WideShapes Go.ChangeAt Go.RowKit
open Go.Am (trod_fits law_calls Fits plainT elemV sim0)
open Go.Proofs.P17 (vZ IsZs IsPs pV)

theorem own : ownKnob Try.prog.godebug = none := by kernel_rfl
theorem laidOut : laidOutB Try.prog = true := by kernel_rfl
theorem plain : [49, 28, 52, 3].all (plainT Try.prog [49, 28, 52, 3]) = true := by kernel_rfl
theorem mixed : Try.prog.follows .mixedOrders = true := by kernel_rfl
theorem size3 : Try.prog.cellsOf 3 = 1 := by kernel_rfl
theorem size52 : Try.prog.cellsOf 52 = 2 := by kernel_rfl
theorem bytes52 : Try.prog.bytesOf 52 = 16 := by kernel_rfl
theorem bytes3 : Try.prog.bytesOf 3 = 8 := by kernel_rfl

theorem hO : ∀ f fn, Go.Proofs.P17.T f = some fn → Am.OrcSound Try.prog (Am.okc0 Try.prog) f fn :=
  Go.Proofs.P17.hO (Am.sortO_sound rfl Try.slices_Sort_int Try.slices_Sort_int_none) (Am.compO_sound rfl Try.slices_Compact_int Try.slices_Compact_int_empty)

/-- What fits is a list of whole numbers. -/
theorem fits_ints {n : Nat} {xs : List Am.AV} (h : Fits Try.prog n 28 xs) : ∃ lv l, xs = [lv] ∧ IsZs lv l ∧ l.length * 8 ≤ reachBytes := by
  obtain ⟨ys, h1, h2, h3, h4⟩ := h.slice Try.underlying28
  have : ∀ ys : List Am.AV, (∀ y, y ∈ ys → ∃ zs, y = elemV zs ∧ zs.length = Try.prog.cellsOf 3 ∧ Fits Try.prog (n - 1) 3 zs) → ∃ l : List Int, ys = l.map vZ := by
    intro ys
    induction ys with
    | nil => intro _; exact ⟨[], rfl⟩
    | cons y ys ih =>
      intro hy
      obtain ⟨l, rfl⟩ := ih fun z hz => hy z (List.mem_cons_of_mem _ hz)
      obtain ⟨zs, rfl, _, hz⟩ := hy y List.mem_cons_self
      obtain ⟨i, rfl, _⟩ := hz.int Try.underlying3
      exact ⟨i :: l, rfl⟩
  obtain ⟨l, rfl⟩ := this ys h4
  rw [bytes3, List.length_map] at h2
  have h5 : reachBytes = 140737488351232 := by decide
  refine ⟨_, l, h1, ⟨1, by rw [size3], .inl rfl⟩, by omega⟩

set_option maxRecDepth 100000 in
theorem fits_pair {n : Nat} {xs : List Am.AV} (h : Fits Try.prog n 52 xs) : ∃ p : Int × Int, xs = [vZ p.1, vZ p.2] := by
  obtain ⟨hl, hf⟩ := h.array Try.underlying52
  rw [size52] at hl
  have f0 : Fits Try.prog (n - 1) 3 ((xs.drop (0 * Try.prog.cellsOf 3)).take (Try.prog.cellsOf 3)) := hf 0 (by decide)
  have f1 : Fits Try.prog (n - 1) 3 ((xs.drop (1 * Try.prog.cellsOf 3)).take (Try.prog.cellsOf 3)) := hf 1 (by decide)
  rw [size3] at f0 f1
  obtain ⟨i0, e0, _⟩ := f0.int Try.underlying3
  obtain ⟨i1, e1, _⟩ := f1.int Try.underlying3
  match xs, hl with
  | [x0, x1], _ =>
    simp only [Nat.zero_mul, Nat.one_mul, List.drop_zero, List.drop_succ_cons, List.take_succ_cons, List.take_zero, List.cons.injEq, and_true] at e0 e1
    subst e0; subst e1
    exact ⟨⟨i0, i1⟩, rfl⟩

/-- What fits is a list of pairs. -/
theorem fits_pairs {n : Nat} {xs : List Am.AV} (h : Fits Try.prog n 49 xs) : ∃ lv l, xs = [lv] ∧ IsPs lv l ∧ l.length * Try.prog.bytesOf 52 ≤ reachBytes := by
  obtain ⟨ys, h1, h2, h3, h4⟩ := h.slice Try.underlying49
  have : ∀ ys : List Am.AV, (∀ y, y ∈ ys → ∃ zs, y = elemV zs ∧ zs.length = Try.prog.cellsOf 52 ∧ Fits Try.prog (n - 1) 52 zs) → ∃ l : List (Int × Int), ys = l.map pV := by
    intro ys
    induction ys with
    | nil => intro _; exact ⟨[], rfl⟩
    | cons y ys ih =>
      intro hy
      obtain ⟨l, rfl⟩ := ih fun z hz => hy z (List.mem_cons_of_mem _ hz)
      obtain ⟨zs, rfl, _, hz⟩ := hy y List.mem_cons_self
      obtain ⟨p, rfl⟩ := fits_pair hz
      exact ⟨p :: l, rfl⟩
  obtain ⟨l, rfl⟩ := this ys h4
  rw [List.length_map] at h2
  exact ⟨_, l, h1, ⟨2, by rw [size52], .inl rfl⟩, h2⟩

set_option maxRecDepth 100000 in
theorem lifted (os : Os) (started : os.Started) (H : Type) (enc : TypeId × Value → H) :
    ReturnsInHanded {} Try.checked os 9 .any (Rows.pairsGrowSpec.pre6 enc Try.prog Try.f9 Rows.pairsGrowRow.domain false) (Rows.pairsGrowSpec.post enc Try.prog Try.f9 false true false false) := by
  refine returnsInHanded_of_change_sized (C := Try.checked) own started (by kernel_rfl) Try.func9
    (ChangeSpec.witness6 (enc := enc) (C := Try.checked) false ⟨#[], #[.slice none 0 0, .slice none 0 0, .slice none 0 0, .slice none 0 0], []⟩ 8 (by kernel_rfl) (by kernel_rfl) (by kernel_rfl) (by kernel_rfl)) ?_
  intro W base args ds gs before hval0 hW hcnd hsz0 _
  have hsz : (DataW.weightsEach Try.prog (Try.f9.params.toList ++ Rows.pairsGrowSpec.plain.varTypes Try.prog) (ds ++ gs)).all (· ≤ reachBytes) = true := hsz0
  have hval : ∀ (j : Nat) t v, Try.f9.params[j]? = some t → args[j]? = some v → Value.okWide Try.prog W .any base t v := hval0
  have hW' := hW
  obtain ⟨p, q, hA0, hV, rfl, hfz, hnd⟩ := hW
  have hA : DataW.TrodAll enc Try.prog W 0 (fun _ => true) true Try.f9.params.toList args.toList ds p := hA0
  rw [Try.params9] at hA hval hsz
  obtain ⟨v0, vs0, d0, ds0, p0, q0, hargs, rfl, rfl, h0, r0⟩ := trodAll_cons hA
  obtain ⟨v1, vs1, d1, ds1, p1, q1, rfl, rfl, rfl, h1, r1⟩ := trodAll_cons r0
  obtain ⟨v2, vs2, d2, ds2, p2, q2, rfl, rfl, rfl, h2, r2⟩ := trodAll_cons r1
  obtain ⟨v3, vs3, d3, ds3, p3, q3, rfl, rfl, rfl, h3, r3⟩ := trodAll_cons r2
  obtain ⟨rfl, rfl, rfl⟩ := trodAll_nil r3
  obtain rfl : args = #[v0, v1, v2, v3] := by cases args; simp_all
  obtain ⟨rfl, rfl⟩ := trodVars_none hV
  obtain ⟨a0, len0, cap0, rfl⟩ := okWide_slice Try.underlying49 (hval 0 49 v0 rfl rfl)
  obtain ⟨a1, len1, cap1, rfl⟩ := okWide_slice Try.underlying49 (hval 1 49 v1 rfl rfl)
  obtain ⟨a2, len2, cap2, rfl⟩ := okWide_slice Try.underlying28 (hval 2 28 v2 rfl rfl)
  obtain ⟨a3, len3, cap3, rfl⟩ := okWide_slice Try.underlying28 (hval 3 28 v3 rfl rfl)
  have k0 := h0
  have k1 := h1
  have k2 := h2
  have k3 := h3
  have lt0 : ∀ x ∈ p0, x.block < W.heap.size := by obtain ⟨m, hm⟩ := k0; exact DataW.trod_lt m _ _ _ hm
  have lt1 : ∀ x ∈ p1, x.block < W.heap.size := by obtain ⟨m, hm⟩ := k1; exact DataW.trod_lt m _ _ _ hm
  have lt2 : ∀ x ∈ p2, x.block < W.heap.size := by obtain ⟨m, hm⟩ := k2; exact DataW.trod_lt m _ _ _ hm
  have lt3 : ∀ x ∈ p3, x.block < W.heap.size := by obtain ⟨m, hm⟩ := k3; exact DataW.trod_lt m _ _ _ hm
  have hw0 : ∀ q, q ∈ d0.weights Try.prog 49 → q ≤ reachBytes := fun q hq => by
    have h1 := List.all_eq_true.1 hsz q (by
      simp only [List.cons_append, List.nil_append, DataW.weightsEach]
      simp only [List.mem_append] at hq ⊢
      exact .inl hq)
    simpa using h1
  have hw1 : ∀ q, q ∈ d1.weights Try.prog 49 → q ≤ reachBytes := fun q hq => by
    have h1 := List.all_eq_true.1 hsz q (by
      simp only [List.cons_append, List.nil_append, DataW.weightsEach]
      simp only [List.mem_append] at hq ⊢
      exact .inr (.inl hq))
    simpa using h1
  have hw2 : ∀ q, q ∈ d2.weights Try.prog 28 → q ≤ reachBytes := fun q hq => by
    have h1 := List.all_eq_true.1 hsz q (by
      simp only [List.cons_append, List.nil_append, DataW.weightsEach]
      simp only [List.mem_append] at hq ⊢
      exact .inr (.inr (.inl hq)))
    simpa using h1
  have hw3 : ∀ q, q ∈ d3.weights Try.prog 28 → q ≤ reachBytes := fun q hq => by
    have h1 := List.all_eq_true.1 hsz q (by
      simp only [List.cons_append, List.nil_append, DataW.weightsEach]
      simp only [List.mem_append] at hq ⊢
      exact .inr (.inr (.inr (.inl hq))))
    simpa using h1
  obtain ⟨fuel0, hf0⟩ := h0
  obtain ⟨fuel1, hf1⟩ := h1
  obtain ⟨fuel2, hf2⟩ := h2
  obtain ⟨fuel3, hf3⟩ := h3
  obtain ⟨xs0, y01, y02, y03⟩ := trod_fits plain fuel0 49 _ _ (by simp) hf0 hw0
  obtain ⟨xs1, y11, y12, y13⟩ := trod_fits plain fuel1 49 _ _ (by simp) hf1 hw1
  obtain ⟨xs2, y21, y22, y23⟩ := trod_fits plain fuel2 28 _ _ (by simp) hf2 hw2
  obtain ⟨xs3, y31, y32, y33⟩ := trod_fits plain fuel3 28 _ _ (by simp) hf3 hw3
  obtain ⟨x0, l0, rfl, g0, _⟩ := fits_pairs y03
  obtain ⟨x1, l1, rfl, g1, _⟩ := fits_pairs y13
  obtain ⟨x2, l2, rfl, g2, _⟩ := fits_ints y23
  obtain ⟨x3, l3, rfl, g3, _⟩ := fits_ints y33
  have e0 := (y02 0 _ (.slice a0 len0 cap0) rfl rfl).1
  have e1 := (y12 0 _ (.slice a1 len1 cap1) rfl rfl).1
  have e2 := (y22 0 _ (.slice a2 len2 cap2) rfl rfl).1
  have e3 := (y32 0 _ (.slice a3 len3 cap3) rfl rfl).1
  clear hA0 hval0 hsz0 hsz
  obtain ⟨r, M, hM, rfl⟩ := (Go.Proofs.P17.call9 (m := ⟨[], none⟩) g0 g1 g2 g3 Am.Sep.nil).out
  refine (law_calls (vs := [.slice a0 len0 cap0, .slice a1 len1 cap1, .slice a2 len2 cap2, .slice a3 len3 cap3]) mixed Go.Proofs.P17.hT hO (by decide) hM rfl (fun i y v hy hv => by
    match i, hy, hv with
    | 0, hy, hv => cases hy; cases hv; exact e0
    | 1, hy, hv => cases hy; cases hv; exact e1
    | 2, hy, hv => cases hy; cases hv; exact e2
    | 3, hy, hv => cases hy; cases hv; exact e3
    | i + 4, hy, hv => cases hy)).mono fun e W' ⟨he, bel⟩ => ?_
  subst he
  exact ⟨_, rfl, _, _, _, [], _, [], hW', trodAll_mk1 (shut_bool Try.underlying4 _), (trodAll_cons_mk (Below.trod laidOut (by kernel_rfl) (of_decide_eq_true (by kernel_rfl)) k0 bel lt0) (trodAll_cons_mk (Below.trod laidOut (by kernel_rfl) (of_decide_eq_true (by kernel_rfl)) k1 bel lt1) (trodAll_cons_mk (Below.trod laidOut (by kernel_rfl) (of_decide_eq_true (by kernel_rfl)) k2 bel lt2) (trodAll_cons_mk (Below.trod laidOut (by kernel_rfl) (of_decide_eq_true (by kernel_rfl)) k3 bel lt3) trodAll_mk0)))), rfl, bel.frame _, fun h => by cases h⟩

theorem over : Rows.pairsGrowRow.holds Try.pinned (OpenSpec.ofChange Rows.pairsGrowSpec) :=
  OpenClaim.holds_of_wide 9 Try.f9 rfl rfl rfl rfl rfl rfl rfl ⟨rfl, rfl, rfl, rfl, rfl⟩ rfl rfl rfl rfl rfl (by kernel_rfl) Try.func9 (by kernel_rfl)
    (of_decide_eq_true (by kernel_rfl)) (by unfold Func.isWrapper; first | (rw [if_pos (by decide +kernel)]; kernel_rfl) | (rw [if_neg (by decide +kernel)]; exact ⟨rfl, rfl⟩))
    (fun os started H enc _ => lifted os started H enc)
end Go.Proofs.Ytdddcofggemnkaa.pairsGrow
namespace Go.Proofs.Ytdddcofggemnkaa
/-- The row, under a short name, for the claim. -/
theorem pairsGrow_holds : Rows.PairsGrowSaid := pairsGrow.over
#print axioms pairsGrow_holds
end Go.Proofs.Ytdddcofggemnkaa
