/- The row of PosIff: whatever the input, the law returns true, and its arguments read as before. -/
import Derived.Test.YtdddcofggemnkaaRows
import Derived.Test.YtdddcofggemnkaaP16W22
import Derived.Test.YtdddcofggemnkaaShelf
import Derived.Test.YtdddcofggemnkaaAmIn
import Derived.WalkKit
import Derived.ProofKit
import Derived.OpenShut
import Derived.ChangeOld
import Derived.Below
import Derived.SizedLaws
namespace Go.Proofs.Ytdddcofggemnkaa.posIff
set_option linter.all false
open Go.ChangeShapes Go.WideShapes Go.ChangeAt Go.RowKit
open Go.Am (trod_fits law_callsX Fits plainT elemV sim0)
open Go.Proofs.P16 (vZ IsInts)

theorem own : ownKnob Try.prog.godebug = none := by kernel_rfl
theorem laidOut : laidOutB Try.prog = true := by kernel_rfl
theorem plain : [28, 3, 5].all (plainT Try.prog [28, 3, 5]) = true := by kernel_rfl
theorem mixed : Try.prog.follows .mixedOrders = true := by kernel_rfl
theorem size3 : Try.prog.cellsOf 3 = 1 := by kernel_rfl
theorem bytes3 : Try.prog.bytesOf 3 = 8 := by kernel_rfl

theorem hO : ∀ f fn, Go.Proofs.P16.T f = some fn → Am.OrcSound Try.prog (Am.okc0 Try.prog) f fn :=
  Go.Proofs.P16.hO (Am.sortO_sound rfl Try.slices_Sort_int Try.slices_Sort_int_none) (Am.compO_sound rfl Try.slices_Compact_int Try.slices_Compact_int_empty)

/-- What fits is a list of whole numbers. -/
theorem fits_ints {n : Nat} {xs : List Am.AV} (h : Fits Try.prog n 28 xs) : ∃ lv l, xs = [lv] ∧ IsInts lv l ∧ l.length < 1152921504606846976 := by
  obtain ⟨ys, h1, h2, h3, h4⟩ := h.slice Try.underlying28
  have : ∀ ys : List Am.AV, (∀ y, y ∈ ys → ∃ zs, y = elemV zs ∧ zs.length = Try.prog.cellsOf 3 ∧ Fits Try.prog (n - 1) 3 zs) → ∃ l : List Int, ys = l.map vZ := by
    intro ys
    induction ys with
    | nil => intro _; exact ⟨[], rfl⟩
    | cons y ys ih =>
      intro hy
      obtain ⟨l, rfl⟩ := ih fun z hz => hy z (List.mem_cons_of_mem _ hz)
      obtain ⟨zs, rfl, _, hz⟩ := hy y List.mem_cons_self
      obtain ⟨i, rfl, _⟩ := hz.int Try.underlying3
      exact ⟨i :: l, rfl⟩
  obtain ⟨l, rfl⟩ := this ys h4
  rw [bytes3, List.length_map] at h2
  have h5 : reachBytes = 140737488351232 := by decide
  refine ⟨_, l, h1, ⟨1, by rw [size3], .inl rfl⟩, by omega⟩

theorem u8_wf {n : Int} (h : (Lit.int .u8 n).wf = true) : ∃ t : Nat, n = t ∧ t < 256 := by
  simp only [Lit.wf, Bool.and_eq_true, decide_eq_true_eq] at h
  have h1 : IntKind.u8.min = 0 := by decide
  have h2 : IntKind.u8.max = 255 := by decide
  exact ⟨n.toNat, by omega, by omega⟩

set_option maxRecDepth 100000 in
theorem lifted (os : Os) (started : os.Started) (H : Type) (enc : TypeId × Value → H) :
    ReturnsInHanded {} Try.checked os 6 .any (Rows.posIffSpec.pre6 enc Try.prog Try.f6 Rows.posIffRow.domain false) (Rows.posIffSpec.post enc Try.prog Try.f6 false true false false) := by
  refine returnsInHanded_of_change_sized (C := Try.checked) own started (by kernel_rfl) Try.func6
    (ChangeSpec.witness6 (enc := enc) (C := Try.checked) false ⟨#[], #[.int .i64 0, .slice none 0 0, .int .u8 0], []⟩ 8 (by kernel_rfl) (by kernel_rfl) (by kernel_rfl) (by kernel_rfl)) ?_
  intro W base args ds gs before hval0 hW hcnd hsz0 _
  have hsz : (DataW.weightsEach Try.prog (Try.f6.params.toList ++ Rows.posIffSpec.plain.varTypes Try.prog) (ds ++ gs)).all (· ≤ reachBytes) = true := hsz0
  have hval : ∀ (j : Nat) t v, Try.f6.params[j]? = some t → args[j]? = some v → Value.okWide Try.prog W .any base t v := hval0
  have hW' := hW
  obtain ⟨p, q, hA0, hV, rfl, hfz, hnd⟩ := hW
  have hA : DataW.TrodAll enc Try.prog W 0 (fun _ => true) true Try.f6.params.toList args.toList ds p := hA0
  rw [Try.params6] at hA hval hsz
  obtain ⟨v0, vs0, d0, ds0, p0, q0, hargs, rfl, rfl, h0, r0⟩ := trodAll_cons hA
  obtain ⟨v1, vs1, d1, ds1, p1, q1, rfl, rfl, rfl, h1, r1⟩ := trodAll_cons r0
  obtain ⟨v2, vs2, d2, ds2, p2, q2, rfl, rfl, rfl, h2, r2⟩ := trodAll_cons r1
  obtain ⟨rfl, rfl, rfl⟩ := trodAll_nil r2
  obtain rfl : args = #[v0, v1, v2] := by cases args; simp_all
  obtain ⟨rfl, rfl⟩ := trodVars_none hV
  obtain ⟨n0, rfl⟩ := okWide_int Try.underlying3 (hval 0 3 v0 rfl rfl)
  obtain ⟨a1, len1, cap1, rfl⟩ := okWide_slice Try.underlying28 (hval 1 28 v1 rfl rfl)
  obtain ⟨n2, rfl⟩ := okWide_int Try.underlying5 (hval 2 5 v2 rfl rfl)
  have k0 := h0
  have k1 := h1
  have k2 := h2
  have lt0 : ∀ x ∈ p0, x.block < W.heap.size := by obtain ⟨m, hm⟩ := k0; exact DataW.trod_lt m _ _ _ hm
  have lt1 : ∀ x ∈ p1, x.block < W.heap.size := by obtain ⟨m, hm⟩ := k1; exact DataW.trod_lt m _ _ _ hm
  have lt2 : ∀ x ∈ p2, x.block < W.heap.size := by obtain ⟨m, hm⟩ := k2; exact DataW.trod_lt m _ _ _ hm
  have hw : ∀ q, q ∈ d0.weights Try.prog 3 ++ (d1.weights Try.prog 28 ++ d2.weights Try.prog 5) → q ≤ reachBytes := fun q hq => by
    have h1 := List.all_eq_true.1 hsz q (by
      simp only [List.cons_append, List.nil_append, DataW.weightsEach]
      simp only [List.mem_append] at hq ⊢
      rcases hq with h | h | h
      · exact .inl h
      · exact .inr (.inl h)
      · exact .inr (.inr (.inl h)))
    simpa using h1
  obtain ⟨fuel0, hf0⟩ := h0
  obtain ⟨fuel1, hf1⟩ := h1
  obtain ⟨fuel2, hf2⟩ := h2
  obtain ⟨xs0, x1, x2, x3⟩ := trod_fits plain fuel0 3 _ _ (by simp) hf0 (fun q hq => hw q (List.mem_append_left _ hq))
  obtain ⟨xs1, y1, y2, y3⟩ := trod_fits plain fuel1 28 _ _ (by simp) hf1 (fun q hq => hw q (List.mem_append_right _ (List.mem_append_left _ hq)))
  obtain ⟨xs2, z1, z2, z3⟩ := trod_fits plain fuel2 5 _ _ (by simp) hf2 (fun q hq => hw q (List.mem_append_right _ (List.mem_append_right _ hq)))
  obtain ⟨i0, rfl, _⟩ := x3.int Try.underlying3
  obtain ⟨lv, l, rfl, hl, hll⟩ := fits_ints y3
  obtain ⟨i2, rfl, w2⟩ := z3.int Try.underlying5
  obtain ⟨t, rfl, ht⟩ := u8_wf w2
  have e0 := (x2 0 _ (.int .i64 n0) rfl rfl).1
  have e1 := (y2 0 _ (.slice a1 len1 cap1) rfl rfl).1
  have e2 := (z2 0 _ (.int .u8 n2) rfl rfl).1
  clear hA0 hval0 hsz0 hsz
  refine (law_callsX (fn := Go.Proofs.P16.f6) (args := [.int .i64 i0, lv, .int .u8 t]) (vs := [.int .i64 n0, .slice a1 len1 cap1, .int .u8 n2]) mixed Go.Proofs.P16.hT hO Go.Proofs.P16.ok6 rfl (Go.Proofs.P16.law6 (fr := []) hl hll ht Am.Sep.nil) rfl (fun i y v hy hv => by
    match i, hy, hv with
    | 0, hy, hv => cases hy; cases hv; exact e0
    | 1, hy, hv => cases hy; cases hv; exact e1
    | 2, hy, hv => cases hy; cases hv; exact e2
    | i + 3, hy, hv => cases hy)).mono fun e W' ⟨he, bel⟩ => ?_
  subst he
  exact ⟨_, rfl, _, _, _, [], _, [], hW', trodAll_mk1 (shut_bool Try.underlying4 _), (trodAll_cons_mk (Below.trod laidOut (by kernel_rfl) (of_decide_eq_true (by kernel_rfl)) k0 bel lt0) (trodAll_cons_mk (Below.trod laidOut (by kernel_rfl) (of_decide_eq_true (by kernel_rfl)) k1 bel lt1) (trodAll_cons_mk (Below.trod laidOut (by kernel_rfl) (of_decide_eq_true (by kernel_rfl)) k2 bel lt2) trodAll_mk0))), rfl, bel.frame _, fun h => by cases h⟩

theorem over : Rows.posIffRow.holds Try.pinned (OpenSpec.ofChange Rows.posIffSpec) :=
  OpenClaim.holds_of_wide 6 Try.f6 rfl rfl rfl rfl rfl rfl rfl ⟨rfl, rfl, rfl, rfl, rfl⟩ rfl rfl rfl rfl rfl (by kernel_rfl) Try.func6 (by kernel_rfl)
    (of_decide_eq_true (by kernel_rfl)) (by unfold Func.isWrapper; first | (rw [if_pos (by decide +kernel)]; kernel_rfl) | (rw [if_neg (by decide +kernel)]; exact ⟨rfl, rfl⟩))
    (fun os started H enc _ => lifted os started H enc)
end Go.Proofs.Ytdddcofggemnkaa.posIff
namespace Go.Proofs.Ytdddcofggemnkaa
/-- The row, under a short name, for the claim. -/
theorem posIff_holds : Rows.PosIffSaid := posIff.over
#print axioms posIff_holds
end Go.Proofs.Ytdddcofggemnkaa
