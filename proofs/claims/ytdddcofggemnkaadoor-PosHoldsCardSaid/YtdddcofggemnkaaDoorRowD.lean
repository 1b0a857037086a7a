/- The row of PosHolds, and its card: whatever the input, where the listed tables start as the text lays them, the law returns true, and its arguments read as before. -/
import Derived.Test.YtdddcofggemnkaaDoorCards
import Derived.Test.YtdddcofggemnkaaDoorTie
import Derived.Test.YtdddcofggemnkaaDoorP16H5
import Derived.Test.YtdddcofggemnkaaDoorShelfD
import Derived.Deep.DeepHandedRow
import Derived.SevenTiedAt
import Derived.Test.YtdddcofggemnkaaDoorAmIn
import Derived.WalkKit
import Derived.ProofKit
import Derived.OpenShut
import Derived.ChangeOld
import Derived.Below
import Derived.SizedLaws
namespace Go.Proofs.YtdddcofggemnkaaDoor.posHolds
set_option linter.all false
open Go.ChangeShapes Go.WideShapes Go.ChangeAt Go.RowKit
open Go.Am (trod_fits law_calls Fits plainT elemV sim0)
open Go.Proofs.P16 (vZ IsInts ActR IsAct IsActs)

theorem own : ownKnob Tryd.prog.godebug = none := by kernel_rfl
theorem laidOut : laidOutB Tryd.prog = true := by kernel_rfl
theorem plain : [22, 23, 41, 29, 3].all (plainT Tryd.prog [22, 23, 41, 29, 3]) = true := by kernel_rfl
theorem mixed : Tryd.prog.follows .mixedOrders = true := by kernel_rfl
theorem size41 : Tryd.prog.cellsOf 41 = 5 := by kernel_rfl
theorem size29 : Tryd.prog.cellsOf 29 = 1 := by kernel_rfl
theorem size3 : Tryd.prog.cellsOf 3 = 1 := by kernel_rfl
theorem bytes41 : 16 ≤ Tryd.prog.bytesOf 41 := by decide +kernel
theorem bytes3 : Tryd.prog.bytesOf 3 = 8 := by kernel_rfl

theorem hO : ∀ f fn, Go.Proofs.P16.T f = some fn → Am.OrcSound Tryd.prog (Am.okc0 Tryd.prog) f fn :=
  Go.Proofs.P16.hO (Am.sortO_sound rfl Tryd.slices_Sort_int Tryd.slices_Sort_int_none) (Am.compO_sound rfl Tryd.slices_Compact_int Tryd.slices_Compact_int_empty) (Am.itoaO_sound rfl Tryd.strconv_Itoa_small)

/-- What fits is a list of whole numbers. -/
theorem fits_ints {n : Nat} {xs : List Am.AV} (h : Fits Tryd.prog n 29 xs) : ∃ lv l, xs = [lv] ∧ IsInts lv l ∧ l.length < 1152921504606846976 := by
  obtain ⟨ys, h1, h2, h3, h4⟩ := h.slice Tryd.underlying29
  have : ∀ ys : List Am.AV, (∀ y, y ∈ ys → ∃ zs, y = elemV zs ∧ zs.length = Tryd.prog.cellsOf 3 ∧ Fits Tryd.prog (n - 1) 3 zs) → ∃ l : List Int, ys = l.map vZ := by
    intro ys
    induction ys with
    | nil => intro _; exact ⟨[], rfl⟩
    | cons y ys ih =>
      intro hy
      obtain ⟨l, rfl⟩ := ih fun z hz => hy z (List.mem_cons_of_mem _ hz)
      obtain ⟨zs, rfl, _, hz⟩ := hy y List.mem_cons_self
      obtain ⟨i, rfl, _⟩ := hz.int Tryd.underlying3
      exact ⟨i :: l, rfl⟩
  obtain ⟨l, rfl⟩ := this ys h4
  rw [bytes3, List.length_map] at h2
  have h5 : reachBytes = 140737488351232 := by decide
  refine ⟨_, l, h1, ⟨1, by rw [size3], .inl rfl⟩, by omega⟩

set_option maxRecDepth 100000 in
theorem fits_act {n : Nat} {xs : List Am.AV} (h : Fits Tryd.prog n 41 xs) : ∃ a : ActR, IsAct (elemV xs) a ∧ a.l.length < 1152921504606846976 := by
  obtain ⟨hl, hf⟩ := h.struct Tryd.underlying41
  rw [size41] at hl
  have f0 : Fits Tryd.prog (n - 1) 3 ((xs.drop 0).take (Tryd.prog.cellsOf 3)) := hf 0 _ rfl
  have f1 : Fits Tryd.prog (n - 1) 3 ((xs.drop 1).take (Tryd.prog.cellsOf 3)) := hf 1 _ rfl
  have f2 : Fits Tryd.prog (n - 1) 3 ((xs.drop 2).take (Tryd.prog.cellsOf 3)) := hf 2 _ rfl
  have f3 : Fits Tryd.prog (n - 1) 3 ((xs.drop 3).take (Tryd.prog.cellsOf 3)) := hf 3 _ rfl
  have f4 : Fits Tryd.prog (n - 1) 29 ((xs.drop 4).take (Tryd.prog.cellsOf 29)) := hf 4 _ rfl
  rw [size3] at f0 f1 f2 f3
  rw [size29] at f4
  obtain ⟨i0, e0, _⟩ := f0.int Tryd.underlying3
  obtain ⟨i1, e1, _⟩ := f1.int Tryd.underlying3
  obtain ⟨i2, e2, _⟩ := f2.int Tryd.underlying3
  obtain ⟨i3, e3, _⟩ := f3.int Tryd.underlying3
  obtain ⟨lv, l, e4, h4, h5⟩ := fits_ints f4
  match xs, hl with
  | [x0, x1, x2, x3, x4], _ =>
    simp only [List.drop_zero, List.drop_succ_cons, List.take_succ_cons, List.take_zero, List.cons.injEq, and_true] at e0 e1 e2 e3 e4
    subst e0; subst e1; subst e2; subst e3; subst e4
    exact ⟨⟨i0, i1, i2, i3, l⟩, ⟨_, rfl, h4⟩, h5⟩

theorem fits_acts {n : Nat} {x : Am.AV} (h : Fits Tryd.prog n 22 [x]) : ∃ as' : List ActR, IsActs x as' ∧ as'.length < 1152921504606846976 ∧ ∀ a ∈ as', a.l.length < 1152921504606846976 := by
  obtain ⟨ys, h1, h2, _, h4⟩ := h.slice Tryd.underlying22
  simp only [List.cons.injEq, and_true] at h1
  subst h1
  have : ∀ ys : List Am.AV, (∀ y, y ∈ ys → ∃ zs, y = elemV zs ∧ zs.length = Tryd.prog.cellsOf 41 ∧ Fits Tryd.prog (n - 1) 41 zs) → ∃ l : List ActR, ys.length = l.length ∧ (∀ (i : Nat) (a : ActR), l[i]? = some a → ∃ e, ys[i]? = some e ∧ IsAct e a) ∧ ∀ a ∈ l, a.l.length < 1152921504606846976 := by
    intro ys
    induction ys with
    | nil => intro _; exact ⟨[], rfl, fun i a h => by simp at h, fun a h => by cases h⟩
    | cons y ys ih =>
      intro hy
      obtain ⟨l, l1, l2, l3⟩ := ih fun z hz => hy z (List.mem_cons_of_mem _ hz)
      obtain ⟨zs, rfl, _, hz⟩ := hy y List.mem_cons_self
      obtain ⟨a, a1, a2⟩ := fits_act hz
      refine ⟨a :: l, by simp [l1], fun i b hb => ?_, fun b hb => ?_⟩
      · cases i with
        | zero => simp only [List.getElem?_cons_zero, Option.some.injEq] at hb; subst hb; exact ⟨_, rfl, a1⟩
        | succ i => simpa using l2 i b (by simpa using hb)
      · rcases List.mem_cons.1 hb with rfl | hb
        · exact a2
        · exact l3 b hb
  obtain ⟨l, l1, l2, l3⟩ := this ys h4
  have h5 : reachBytes = 140737488351232 := by decide
  have h6 := bytes41
  have h7 : ys.length * 16 ≤ ys.length * Tryd.prog.bytesOf 41 := Nat.mul_le_mul_left _ h6
  exact ⟨l, ⟨_, ys, rfl, .inl size41, l1, l2⟩, by omega, l3⟩

theorem fits_sets {n : Nat} {x : Am.AV} (h : Fits Tryd.prog n 23 [x]) : ∃ (els : List Am.AV) (L : List (List Int)), x = .list .shared 1 els ∧ els.length = L.length ∧ ∀ (i : Nat) (s : List Int), L[i]? = some s → ∃ x, els[i]? = some x ∧ IsInts x s := by
  obtain ⟨ys, h1, _, _, h4⟩ := h.slice Tryd.underlying23
  simp only [List.cons.injEq, and_true] at h1
  subst h1
  have : ∀ ys : List Am.AV, (∀ y, y ∈ ys → ∃ zs, y = elemV zs ∧ zs.length = Tryd.prog.cellsOf 29 ∧ Fits Tryd.prog (n - 1) 29 zs) → ∃ L : List (List Int), ys.length = L.length ∧ ∀ (i : Nat) (s : List Int), L[i]? = some s → ∃ x, ys[i]? = some x ∧ IsInts x s := by
    intro ys
    induction ys with
    | nil => intro _; exact ⟨[], rfl, fun i a h => by simp at h⟩
    | cons y ys ih =>
      intro hy
      obtain ⟨l, l1, l2⟩ := ih fun z hz => hy z (List.mem_cons_of_mem _ hz)
      obtain ⟨zs, rfl, _, hz⟩ := hy y List.mem_cons_self
      obtain ⟨lv, s, rfl, a1, _⟩ := fits_ints hz
      refine ⟨s :: l, by simp [l1], fun i b hb => ?_⟩
      cases i with
      | zero => simp only [List.getElem?_cons_zero, Option.some.injEq] at hb; subst hb; exact ⟨_, rfl, a1⟩
      | succ i => simpa using l2 i b (by simpa using hb)
  obtain ⟨L, l1, l2⟩ := this ys h4
  exact ⟨ys, L, by rw [size29], l1, l2⟩

set_option maxRecDepth 100000 in
theorem contract (H : Type) (enc : TypeId × Value → H) (W : World) (base : Nat) (args : Array Value) (ds gs : List (DataW H)) (before : List MemPlace)
    (hval : ∀ (j : Nat) t v, Tryd.f3.params[j]? = some t → args[j]? = some v → Value.okWide Tryd.prog W .any base t v)
    (hW : DataW.Whole enc Tryd.prog Tryd.f3.params.toList Rows.posHoldsSpec.vars false W args.toList ds gs before)
    (hsz : (DataW.weightsEach Tryd.prog (Tryd.f3.params.toList ++ Rows.posHoldsSpec.plain.varTypes Tryd.prog) (ds ++ gs)).all (· ≤ reachBytes) = true) :
    Calls Tryd.prog 3 args W fun e W' => ∃ v, e = .returned v ∧ Rows.posHoldsSpec.post enc Tryd.prog Tryd.f3 false true false false W args v W' := by
  have hW' := hW
  obtain ⟨p, q, hA0, hV, rfl, hfz, hnd⟩ := hW
  have hA : DataW.TrodAll enc Tryd.prog W 0 (fun _ => true) true Tryd.f3.params.toList args.toList ds p := hA0
  rw [Tryd.params3] at hA hval hsz
  obtain ⟨v0, vs0, d0, ds0, p0, q0, hargs, rfl, rfl, h0, r0⟩ := trodAll_cons hA
  obtain ⟨v1, vs1, d1, ds1, p1, q1, rfl, rfl, rfl, h1, r1⟩ := trodAll_cons r0
  obtain ⟨rfl, rfl, rfl⟩ := trodAll_nil r1
  obtain rfl : args = #[v0, v1] := by cases args; simp_all
  obtain ⟨rfl, rfl⟩ := trodVars_none hV
  obtain ⟨a0, len0, cap0, rfl⟩ := okWide_slice Tryd.underlying22 (hval 0 22 v0 rfl rfl)
  obtain ⟨a1, len1, cap1, rfl⟩ := okWide_slice Tryd.underlying23 (hval 1 23 v1 rfl rfl)
  have k0 := h0
  have k1 := h1
  have lt0 : ∀ x ∈ p0, x.block < W.heap.size := by obtain ⟨m, hm⟩ := k0; exact DataW.trod_lt m _ _ _ hm
  have lt1 : ∀ x ∈ p1, x.block < W.heap.size := by obtain ⟨m, hm⟩ := k1; exact DataW.trod_lt m _ _ _ hm
  have hw0 : ∀ q, q ∈ d0.weights Tryd.prog 22 → q ≤ reachBytes := fun q hq => by
    have h1 := List.all_eq_true.1 hsz q (by
      simp only [List.cons_append, List.nil_append, DataW.weightsEach]
      simp only [List.mem_append] at hq ⊢
      exact .inl hq)
    simpa using h1
  have hw1 : ∀ q, q ∈ d1.weights Tryd.prog 23 → q ≤ reachBytes := fun q hq => by
    have h1 := List.all_eq_true.1 hsz q (by
      simp only [List.cons_append, List.nil_append, DataW.weightsEach]
      simp only [List.mem_append] at hq ⊢
      exact .inr (.inl hq))
    simpa using h1
  obtain ⟨fuel0, hf0⟩ := h0
  obtain ⟨fuel1, hf1⟩ := h1
  obtain ⟨xs0, x01, x02, x03⟩ := trod_fits plain fuel0 22 _ _ (by simp) hf0 hw0
  obtain ⟨xs1, x11, x12, x13⟩ := trod_fits plain fuel1 23 _ _ (by simp) hf1 hw1
  obtain ⟨x0, rfl⟩ : ∃ x, xs0 = [x] := by
    simp [Value.cells] at x01
    match xs0, x01 with
    | [x], _ => exact ⟨x, rfl⟩
  obtain ⟨x1, rfl⟩ : ∃ x, xs1 = [x] := by
    simp [Value.cells] at x11
    match xs1, x11 with
    | [x], _ => exact ⟨x, rfl⟩
  obtain ⟨as', ha, hl1, hl2⟩ := fits_acts x03
  obtain ⟨els, L, rfl, hel, hels⟩ := fits_sets x13
  have e0 := (x02 0 _ (.slice a0 len0 cap0) rfl rfl).1
  have e1 := (x12 0 _ (.slice a1 len1 cap1) rfl rfl).1
  clear hA0 hsz
  obtain ⟨r, M, hM, rfl⟩ := (Go.Proofs.P16.call3 (m := ⟨[], none⟩) ha hl1 hl2 hel hels Am.Sep.nil).out
  refine (law_calls (vs := [.slice a0 len0 cap0, .slice a1 len1 cap1]) mixed Go.Proofs.P16.hT hO (by decide) hM rfl (fun i y v hy hv => by
    match i, hy, hv with
    | 0, hy, hv => cases hy; cases hv; exact e0
    | 1, hy, hv => cases hy; cases hv; exact e1
    | i + 2, hy, hv => cases hy)).mono fun e W' ⟨he, bel⟩ => ?_
  subst he
  exact ⟨_, rfl, _, _, _, [], _, [], hW', trodAll_mk1 (shut_bool Tryd.underlying4 _), (trodAll_cons_mk (Below.trod laidOut (by kernel_rfl) (of_decide_eq_true (by kernel_rfl)) k0 bel lt0) (trodAll_cons_mk (Below.trod laidOut (by kernel_rfl) (of_decide_eq_true (by kernel_rfl)) k1 bel lt1) trodAll_mk0)), rfl, bel.frame _, fun h => by cases h⟩

/-- A world for the witness: the settled one, the tables holding what the text lays. -/
def lay (xs : Array Value) : Obj → Obj
  | .cells _ t frozen => .cells xs t frozen
  | o => o
noncomputable def laidWorld (os : Os) : World :=
  { World.holding Tryd.prog os ⟨#[], #[], []⟩ with heap := (((World.holding Tryd.prog os ⟨#[], #[], []⟩).heap.modify 0 (lay #[.int .u64 1, .int .u64 10, .int .u64 100, .int .u64 1000, .int .u64 10000, .int .u64 100000, .int .u64 1000000, .int .u64 10000000, .int .u64 100000000, .int .u64 1000000000, .int .u64 10000000000, .int .u64 100000000000, .int .u64 1000000000000, .int .u64 10000000000000, .int .u64 100000000000000, .int .u64 1000000000000000, .int .u64 10000000000000000, .int .u64 100000000000000000, .int .u64 1000000000000000000, .int .u64 10000000000000000000])).modify 1 (lay #[.int .u8 0, .int .u8 1, .int .u8 28, .int .u8 2, .int .u8 29, .int .u8 14, .int .u8 24, .int .u8 3, .int .u8 30, .int .u8 22, .int .u8 20, .int .u8 15, .int .u8 25, .int .u8 17, .int .u8 4, .int .u8 8, .int .u8 31, .int .u8 27, .int .u8 13, .int .u8 23, .int .u8 21, .int .u8 19, .int .u8 16, .int .u8 7, .int .u8 26, .int .u8 12, .int .u8 18, .int .u8 6, .int .u8 11, .int .u8 5, .int .u8 10, .int .u8 9])).modify 2 (lay #[.int .u8 0, .int .u8 1, .int .u8 56, .int .u8 2, .int .u8 57, .int .u8 49, .int .u8 28, .int .u8 3, .int .u8 61, .int .u8 58, .int .u8 42, .int .u8 50, .int .u8 38, .int .u8 29, .int .u8 17, .int .u8 4, .int .u8 62, .int .u8 47, .int .u8 59, .int .u8 36, .int .u8 45, .int .u8 43, .int .u8 51, .int .u8 22, .int .u8 53, .int .u8 39, .int .u8 33, .int .u8 30, .int .u8 24, .int .u8 18, .int .u8 12, .int .u8 5, .int .u8 63, .int .u8 55, .int .u8 48, .int .u8 27, .int .u8 60, .int .u8 41, .int .u8 37, .int .u8 16, .int .u8 46, .int .u8 35, .int .u8 44, .int .u8 21, .int .u8 52, .int .u8 32, .int .u8 23, .int .u8 11, .int .u8 54, .int .u8 26, .int .u8 40, .int .u8 15, .int .u8 34, .int .u8 20, .int .u8 31, .int .u8 10, .int .u8 25, .int .u8 14, .int .u8 19, .int .u8 9, .int .u8 13, .int .u8 8, .int .u8 7, .int .u8 6]) }
set_option maxRecDepth 100000 in
theorem laid_met (os : Os) : laidMet Tryd.prog Rows.posHoldsRow.laid ((laidWorld os).forCall (fun _ _ => 0) ⟨#[], #[.slice none 0 0, .slice none 0 0], []⟩).memory :=
  laidMet_of_run' 8 (by kernel_rfl) (by kernel_rfl)
set_option maxRecDepth 100000 in
theorem reads (os : Os) {H : Type} (enc : TypeId × Value → H) : ∃ places, DataW.whole enc Tryd.prog ((laidWorld os).forCall (fun _ _ => 0) ⟨#[], #[.slice none 0 0, .slice none 0 0], []⟩).memory Tryd.f3.params.toList Rows.posHoldsSpec.vars false #[Value.slice none 0 0, Value.slice none 0 0].toList 8 = some ([.nil, .nil], [], places) :=
  ⟨[], by kernel_rfl⟩

set_option maxRecDepth 100000 in
theorem lifted (os : Os) (started : os.Started) (H : Type) (enc : TypeId × Value → H) (F : Stop.Interp) :
    ReturnsInHanded {} Tryd.checked os 3 .any ((OpenSpec.ofChange Rows.posHoldsSpec).preRow enc Tryd.prog Tryd.f3 Rows.posHoldsRow.domain false Rows.posHoldsRow.laid) (((OpenSpec.ofChange Rows.posHoldsSpec).at F).post enc Tryd.prog Tryd.f3 false true false false) := by
  obtain ⟨places, hx⟩ := reads os enc
  refine returnsInHanded_of_row (C := Tryd.checked) (s := OpenSpec.ofChange Rows.posHoldsSpec) own started (by kernel_rfl) Tryd.func3
    (witness_row_at (enc := enc) (C := Tryd.checked) false (laidWorld os) #[.slice none 0 0, .slice none 0 0] rfl (by kernel_rfl) (by kernel_rfl) (by kernel_rfl)
      (OpenSpec.preRow_of_cond 8 hx (by kernel_rfl) (fun k hk => by cases hk) (by kernel_rfl) (laid_met os))) ?_
  intro W base args ds gs before hval hW _ _ hsz _ _ _
  exact contract H enc W base args ds gs before hval hW hsz

theorem said : Rows.PosHoldsSaid :=
  OpenClaim.holds_of_cond 3 Tryd.f3 rfl rfl rfl rfl rfl rfl rfl ⟨rfl, rfl, rfl, rfl, rfl⟩ rfl rfl rfl rfl rfl (by kernel_rfl) Tryd.func3 (by kernel_rfl)
    (of_decide_eq_true (by kernel_rfl)) (by unfold Func.isWrapper; first | (rw [if_pos (by decide +kernel)]; kernel_rfl) | (rw [if_neg (by decide +kernel)]; exact ⟨rfl, rfl⟩))
    (fun os started H enc _ F => by rw [OpenClaim.pre_eq_preRow]; exact lifted os started H enc F)

/-- No parameter wants a stand-in; the program's own looks are off: what the card asks. -/
theorem plainArgs (f : FuncId) (fn : Func) (hf : Tryd.pinned.checked.prog.funcNamed "resolvent/resolventlaw16.PosHolds" = some f) (hfn : Tryd.pinned.checked.prog.funcs[f]? = some fn) :
    false = Tryd.pinned.checked.prog.looks [] ∧ ∀ (j : Nat) t, fn.params[j]? = some t → Tryd.pinned.checked.prog.wantsStandIn t = false := by
  obtain rfl : f = 3 := Option.some.inj ((show Tryd.prog.funcNamed "resolvent/resolventlaw16.PosHolds" = some 3 by kernel_rfl).symm.trans hf) |>.symm
  obtain rfl : fn = Tryd.f3 := (Option.some.inj (Tryd.func3.symm.trans hfn)).symm
  refine ⟨by kernel_rfl, fun j t ht => ?_⟩
  rw [Tryd.params3] at ht
  match j, ht with
  | 0, ht => cases ht; exact (show Tryd.prog.wantsStandIn 22 = false by kernel_rfl)
  | 1, ht => cases ht; exact (show Tryd.prog.wantsStandIn 23 = false by kernel_rfl)
  | j + 2, ht => cases ht

theorem card : Rows.PosHoldsCardSaid :=
  Claim7.holds_tied_plain_at .later [] _ _ _ _ said (fun _ h => by cases h) (by kernel_rfl) (fun _ h => by cases h) posHolds_row_tie rfl ⟨rfl, rfl⟩ (by kernel_rfl) rfl plainArgs (by kernel_rfl)
end Go.Proofs.YtdddcofggemnkaaDoor.posHolds
namespace Go.Proofs.YtdddcofggemnkaaDoor
/-- The card, under a short name, for the claim. -/
theorem posHolds_holds : Rows.PosHoldsCardSaid := posHolds.card
#print axioms posHolds_holds
end Go.Proofs.YtdddcofggemnkaaDoor
