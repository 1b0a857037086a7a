/- The row of PosLattice: whatever the input, the law returns true, and its arguments read as before. -/
import Derived.Test.YtdddcofggemnkaaRows
import Derived.Test.YtdddcofggemnkaaP16W24
import Derived.Test.YtdddcofggemnkaaShelf
import Derived.Test.YtdddcofggemnkaaAmIn
import Derived.WalkKit
import Derived.ProofKit
import Derived.OpenShut
import Derived.ChangeOld
import Derived.Below
import Derived.SizedLaws
namespace Go.Proofs.Ytdddcofggemnkaa.posLattice
set_option linter.all false
open Go.ChangeShapes Go.WideShapes Go.ChangeAt Go.RowKit
open Go.Am (trod_fits law_callsX Fits plainT elemV sim0)
open Go.Proofs.P16 (vZ IsInts ActR IsAct IsActs)

theorem own : ownKnob Try.prog.godebug = none := by kernel_rfl
theorem laidOut : laidOutB Try.prog = true := by kernel_rfl
theorem plain : [32, 77, 28, 3].all (plainT Try.prog [32, 77, 28, 3]) = true := by kernel_rfl
theorem mixed : Try.prog.follows .mixedOrders = true := by kernel_rfl
theorem size77 : Try.prog.cellsOf 77 = 5 := by kernel_rfl
theorem size28 : Try.prog.cellsOf 28 = 1 := by kernel_rfl
theorem size3 : Try.prog.cellsOf 3 = 1 := by kernel_rfl
theorem bytes77 : 16 ≤ Try.prog.bytesOf 77 := by decide +kernel
theorem bytes3 : Try.prog.bytesOf 3 = 8 := by kernel_rfl

theorem hO : ∀ f fn, Go.Proofs.P16.T f = some fn → Am.OrcSound Try.prog (Am.okc0 Try.prog) f fn :=
  Go.Proofs.P16.hO (Am.sortO_sound rfl Try.slices_Sort_int Try.slices_Sort_int_none) (Am.compO_sound rfl Try.slices_Compact_int Try.slices_Compact_int_empty)

/-- What fits is a list of whole numbers. -/
theorem fits_ints {n : Nat} {xs : List Am.AV} (h : Fits Try.prog n 28 xs) : ∃ lv l, xs = [lv] ∧ IsInts lv l ∧ l.length < 1152921504606846976 := by
  obtain ⟨ys, h1, h2, h3, h4⟩ := h.slice Try.underlying28
  have : ∀ ys : List Am.AV, (∀ y, y ∈ ys → ∃ zs, y = elemV zs ∧ zs.length = Try.prog.cellsOf 3 ∧ Fits Try.prog (n - 1) 3 zs) → ∃ l : List Int, ys = l.map vZ := by
    intro ys
    induction ys with
    | nil => intro _; exact ⟨[], rfl⟩
    | cons y ys ih =>
      intro hy
      obtain ⟨l, rfl⟩ := ih fun z hz => hy z (List.mem_cons_of_mem _ hz)
      obtain ⟨zs, rfl, _, hz⟩ := hy y List.mem_cons_self
      obtain ⟨i, rfl, _⟩ := hz.int Try.underlying3
      exact ⟨i :: l, rfl⟩
  obtain ⟨l, rfl⟩ := this ys h4
  rw [bytes3, List.length_map] at h2
  have h5 : reachBytes = 140737488351232 := by decide
  refine ⟨_, l, h1, ⟨1, by rw [size3], .inl rfl⟩, by omega⟩

set_option maxRecDepth 100000 in
theorem fits_act {n : Nat} {xs : List Am.AV} (h : Fits Try.prog n 77 xs) : ∃ a : ActR, IsAct (elemV xs) a ∧ a.l.length < 1152921504606846976 := by
  obtain ⟨hl, hf⟩ := h.struct Try.underlying77
  rw [size77] at hl
  have f0 : Fits Try.prog (n - 1) 3 ((xs.drop 0).take (Try.prog.cellsOf 3)) := hf 0 _ rfl
  have f1 : Fits Try.prog (n - 1) 3 ((xs.drop 1).take (Try.prog.cellsOf 3)) := hf 1 _ rfl
  have f2 : Fits Try.prog (n - 1) 3 ((xs.drop 2).take (Try.prog.cellsOf 3)) := hf 2 _ rfl
  have f3 : Fits Try.prog (n - 1) 3 ((xs.drop 3).take (Try.prog.cellsOf 3)) := hf 3 _ rfl
  have f4 : Fits Try.prog (n - 1) 28 ((xs.drop 4).take (Try.prog.cellsOf 28)) := hf 4 _ rfl
  rw [size3] at f0 f1 f2 f3
  rw [size28] at f4
  obtain ⟨i0, e0, _⟩ := f0.int Try.underlying3
  obtain ⟨i1, e1, _⟩ := f1.int Try.underlying3
  obtain ⟨i2, e2, _⟩ := f2.int Try.underlying3
  obtain ⟨i3, e3, _⟩ := f3.int Try.underlying3
  obtain ⟨lv, l, e4, h4, h5⟩ := fits_ints f4
  match xs, hl with
  | [x0, x1, x2, x3, x4], _ =>
    simp only [List.drop_zero, List.drop_succ_cons, List.take_succ_cons, List.take_zero, List.cons.injEq, and_true] at e0 e1 e2 e3 e4
    subst e0; subst e1; subst e2; subst e3; subst e4
    exact ⟨⟨i0, i1, i2, i3, l⟩, ⟨_, rfl, h4⟩, h5⟩

theorem fits_acts {n : Nat} {x : Am.AV} (h : Fits Try.prog n 32 [x]) : ∃ as' : List ActR, IsActs x as' ∧ as'.length < 1152921504606846976 ∧ ∀ a ∈ as', a.l.length < 1152921504606846976 := by
  obtain ⟨ys, h1, h2, _, h4⟩ := h.slice Try.underlying32
  simp only [List.cons.injEq, and_true] at h1
  subst h1
  have : ∀ ys : List Am.AV, (∀ y, y ∈ ys → ∃ zs, y = elemV zs ∧ zs.length = Try.prog.cellsOf 77 ∧ Fits Try.prog (n - 1) 77 zs) → ∃ l : List ActR, ys.length = l.length ∧ (∀ (i : Nat) (a : ActR), l[i]? = some a → ∃ e, ys[i]? = some e ∧ IsAct e a) ∧ ∀ a ∈ l, a.l.length < 1152921504606846976 := by
    intro ys
    induction ys with
    | nil => intro _; exact ⟨[], rfl, fun i a h => by simp at h, fun a h => by cases h⟩
    | cons y ys ih =>
      intro hy
      obtain ⟨l, l1, l2, l3⟩ := ih fun z hz => hy z (List.mem_cons_of_mem _ hz)
      obtain ⟨zs, rfl, _, hz⟩ := hy y List.mem_cons_self
      obtain ⟨a, a1, a2⟩ := fits_act hz
      refine ⟨a :: l, by simp [l1], fun i b hb => ?_, fun b hb => ?_⟩
      · cases i with
        | zero => simp only [List.getElem?_cons_zero, Option.some.injEq] at hb; subst hb; exact ⟨_, rfl, a1⟩
        | succ i => simpa using l2 i b (by simpa using hb)
      · rcases List.mem_cons.1 hb with rfl | hb
        · exact a2
        · exact l3 b hb
  obtain ⟨l, l1, l2, l3⟩ := this ys h4
  have h5 : reachBytes = 140737488351232 := by decide
  have h6 := bytes77
  have h7 : ys.length * 16 ≤ ys.length * Try.prog.bytesOf 77 := Nat.mul_le_mul_left _ h6
  exact ⟨l, ⟨_, ys, rfl, .inl size77, l1, l2⟩, by omega, l3⟩

set_option maxRecDepth 100000 in
theorem lifted (os : Os) (started : os.Started) (H : Type) (enc : TypeId × Value → H) :
    ReturnsInHanded {} Try.checked os 5 .any (Rows.posLatticeSpec.pre6 enc Try.prog Try.f5 Rows.posLatticeRow.domain false) (Rows.posLatticeSpec.post enc Try.prog Try.f5 false true false false) := by
  refine returnsInHanded_of_change_sized (C := Try.checked) own started (by kernel_rfl) Try.func5
    (ChangeSpec.witness6 (enc := enc) (C := Try.checked) false ⟨#[], #[.slice none 0 0, .int .i64 0], []⟩ 8 (by kernel_rfl) (by kernel_rfl) (by kernel_rfl) (by kernel_rfl)) ?_
  intro W base args ds gs before hval0 hW hcnd hsz0 _
  have hsz : (DataW.weightsEach Try.prog (Try.f5.params.toList ++ Rows.posLatticeSpec.plain.varTypes Try.prog) (ds ++ gs)).all (· ≤ reachBytes) = true := hsz0
  have hval : ∀ (j : Nat) t v, Try.f5.params[j]? = some t → args[j]? = some v → Value.okWide Try.prog W .any base t v := hval0
  have hW' := hW
  obtain ⟨p, q, hA0, hV, rfl, hfz, hnd⟩ := hW
  have hA : DataW.TrodAll enc Try.prog W 0 (fun _ => true) true Try.f5.params.toList args.toList ds p := hA0
  rw [Try.params5] at hA hval hsz
  obtain ⟨v0, vs0, d0, ds0, p0, q0, hargs, rfl, rfl, h0, r0⟩ := trodAll_cons hA
  obtain ⟨v1, vs1, d1, ds1, p1, q1, rfl, rfl, rfl, h1, r1⟩ := trodAll_cons r0
  obtain ⟨rfl, rfl, rfl⟩ := trodAll_nil r1
  obtain rfl : args = #[v0, v1] := by cases args; simp_all
  obtain ⟨rfl, rfl⟩ := trodVars_none hV
  obtain ⟨a0, len0, cap0, rfl⟩ := okWide_slice Try.underlying32 (hval 0 32 v0 rfl rfl)
  obtain ⟨n1, rfl⟩ := okWide_int Try.underlying3 (hval 1 3 v1 rfl rfl)
  have k0 := h0
  have k1 := h1
  have lt0 : ∀ x ∈ p0, x.block < W.heap.size := by obtain ⟨m, hm⟩ := k0; exact DataW.trod_lt m _ _ _ hm
  have lt1 : ∀ x ∈ p1, x.block < W.heap.size := by obtain ⟨m, hm⟩ := k1; exact DataW.trod_lt m _ _ _ hm
  have hw : ∀ q, q ∈ d0.weights Try.prog 32 ++ d1.weights Try.prog 3 → q ≤ reachBytes := fun q hq => by
    have h1 := List.all_eq_true.1 hsz q (by
      simp only [List.cons_append, List.nil_append, DataW.weightsEach]
      simp only [List.mem_append] at hq ⊢
      rcases hq with h | h
      · exact .inl h
      · exact .inr (.inl h))
    simpa using h1
  obtain ⟨fuel0, hf0⟩ := h0
  obtain ⟨fuel1, hf1⟩ := h1
  obtain ⟨xs0, x1, x2, x3⟩ := trod_fits plain fuel0 32 _ _ (by simp) hf0 (fun q hq => hw q (List.mem_append_left _ hq))
  obtain ⟨xs1, y1, y2, y3⟩ := trod_fits plain fuel1 3 _ _ (by simp) hf1 (fun q hq => hw q (List.mem_append_right _ hq))
  obtain ⟨i1, rfl, _⟩ := y3.int Try.underlying3
  obtain ⟨x, rfl⟩ : ∃ x, xs0 = [x] := by
    simp [Value.cells] at x1
    match xs0, x1 with
    | [x], _ => exact ⟨x, rfl⟩
  obtain ⟨as', ha, hl1, hl2⟩ := fits_acts x3
  have e0 := (x2 0 _ (.slice a0 len0 cap0) rfl rfl).1
  have e1 := (y2 0 _ (.int .i64 n1) rfl rfl).1
  clear hA0 hval0 hsz0 hsz
  refine (law_callsX (fn := Go.Proofs.P16.f5) (args := [x, .int .i64 i1]) (vs := [.slice a0 len0 cap0, .int .i64 n1]) mixed Go.Proofs.P16.hT hO Go.Proofs.P16.ok5 rfl (Go.Proofs.P16.law5 (fr := []) ha hl1 hl2 Am.Sep.nil) rfl (fun i y v hy hv => by
    match i, hy, hv with
    | 0, hy, hv => cases hy; cases hv; exact e0
    | 1, hy, hv => cases hy; cases hv; exact e1
    | i + 2, hy, hv => cases hy)).mono fun e W' ⟨he, bel⟩ => ?_
  subst he
  exact ⟨_, rfl, _, _, _, [], _, [], hW', trodAll_mk1 (shut_bool Try.underlying4 _), (trodAll_cons_mk (Below.trod laidOut (by kernel_rfl) (of_decide_eq_true (by kernel_rfl)) k0 bel lt0) (trodAll_cons_mk (Below.trod laidOut (by kernel_rfl) (of_decide_eq_true (by kernel_rfl)) k1 bel lt1) trodAll_mk0)), rfl, bel.frame _, fun h => by cases h⟩

theorem over : Rows.posLatticeRow.holds Try.pinned (OpenSpec.ofChange Rows.posLatticeSpec) :=
  OpenClaim.holds_of_wide 5 Try.f5 rfl rfl rfl rfl rfl rfl rfl ⟨rfl, rfl, rfl, rfl, rfl⟩ rfl rfl rfl rfl rfl (by kernel_rfl) Try.func5 (by kernel_rfl)
    (of_decide_eq_true (by kernel_rfl)) (by unfold Func.isWrapper; first | (rw [if_pos (by decide +kernel)]; kernel_rfl) | (rw [if_neg (by decide +kernel)]; exact ⟨rfl, rfl⟩))
    (fun os started H enc _ => lifted os started H enc)
end Go.Proofs.Ytdddcofggemnkaa.posLattice
namespace Go.Proofs.Ytdddcofggemnkaa
/-- The row, under a short name, for the claim. -/
theorem posLattice_holds : Rows.PosLatticeSaid := posLattice.over
#print axioms posLattice_holds
end Go.Proofs.Ytdddcofggemnkaa
