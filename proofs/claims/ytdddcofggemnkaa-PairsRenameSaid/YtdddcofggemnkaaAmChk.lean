/- An abstract machine for the part of Go that this program uses: when an operation of it stands for one of the model's. -/
import Derived.Test.YtdddcofggemnkaaAmMem
namespace Go.Am
set_option linter.all false
open Go Go.RowKit

def Tag.plain : Tag → Bool
  | .own _ => false
  | _ => true

def okConst1 : Value → AV → Bool
  | .bool a, .bool b => a == b
  | .int k a, .int k' b => decide (k = k') && decide (a = b)
  | .string a, .str b => decide (a.data.toList = b.data.toList)
  | .slice a n m, .list g _ xs => a.isNone && n == 0 && m == 0 && xs.isEmpty && g.plain
  | .pointer a, .nilptr => a.isNone
  | .map a, .nilmap => a.isNone
  | .nilFunc, .nilfunc => true
  | .nilIface, .niliface => true
  | _, _ => false

theorem okConst1_ok {s : Sim} {x : Value} {y : AV} (h : okConst1 x y = true) : VR s y x ∧ one x = true := by
  cases x <;> cases y <;> first | (simp only [okConst1] at h; cases h; done) | skip
  case bool.bool a b =>
    have : a = b := by simpa [okConst1] using h
    subst this; exact ⟨.bool _, rfl⟩
  case int.int k a k' b =>
    simp only [okConst1, Bool.and_eq_true, decide_eq_true_eq] at h
    obtain ⟨rfl, rfl⟩ := h; exact ⟨.int _ _, rfl⟩
  case string.str a b =>
    simp only [okConst1, decide_eq_true_eq] at h
    have : a = b := by
      cases a; cases b
      simp only [ByteArray.mk.injEq]
      exact Array.toList_inj.1 h
    subst this; exact ⟨.str _, rfl⟩
  case slice.list a n m g k xs =>
    simp only [okConst1, Bool.and_eq_true, beq_iff_eq, Option.isNone_iff_eq_none, List.isEmpty_iff] at h
    obtain ⟨⟨⟨⟨rfl, rfl⟩, rfl⟩, rfl⟩, hg⟩ := h
    refine ⟨.nil _ _ ?_, rfl⟩
    cases g <;> simp_all [TagOk, Tag.plain]
  case pointer.nilptr a =>
    simp only [okConst1, Option.isNone_iff_eq_none] at h
    subst h; exact ⟨.nilptr, rfl⟩
  case map.nilmap a =>
    simp only [okConst1, Option.isNone_iff_eq_none] at h
    subst h; exact ⟨.nilmap, rfl⟩
  case nilFunc.nilfunc => exact ⟨.nilfunc, rfl⟩
  case nilIface.niliface => exact ⟨.niliface, rfl⟩

def okConsts : List Value → List AV → Bool
  | [], [] => true
  | x :: xs, y :: ys => okConst1 x y && okConsts xs ys
  | _, _ => false

theorem okConsts_ok {s : Sim} : ∀ {xs : List Value} {ys : List AV}, okConsts xs ys = true →
    ys.length = xs.length ∧ (∀ v ∈ xs, one v = true) ∧ ∀ (i : Nat) (x : AV) (v : Value), ys[i]? = some x → xs[i]? = some v → VR s x v ∧ one v = true := by
  intro xs
  induction xs with
  | nil =>
    intro ys h
    cases ys with
    | nil => exact ⟨rfl, by simp, by simp⟩
    | cons y ys => simp [okConsts] at h
  | cons x xs ih =>
    intro ys h
    cases ys with
    | nil => simp [okConsts] at h
    | cons y ys =>
      simp only [okConsts, Bool.and_eq_true] at h
      obtain ⟨h1, h2, h3⟩ := ih h.2
      have h0 := okConst1_ok (s := s) h.1
      refine ⟨by simp [h1], fun v hv => ?_, fun i a v ha hv => ?_⟩
      · rcases List.mem_cons.1 hv with rfl | hv
        · exact h0.2
        · exact h2 v hv
      · cases i with
        | zero =>
          simp only [List.getElem?_cons_zero, Option.some.injEq] at ha hv
          subst ha; subst hv
          exact h0
        | succ i => exact h3 i a v (by simpa using ha) (by simpa using hv)

def okConst (x : Value) (y : AV) : Bool :=
  match x, y with
  | .agg xs, .agg ys => okConsts xs.toList ys
  | .tuple xs, .tuple ys => xs.toList.isEmpty && ys.isEmpty
  | x, y => okConst1 x y

theorem okConst_ok {s : Sim} {x : Value} {y : AV} (h : okConst x y = true) : VR s y x := by
  unfold okConst at h
  split at h
  · rename_i xs ys
    obtain ⟨h1, h2, h3⟩ := okConsts_ok (s := s) h
    have := VR.agg (s := s) ys xs.toList h1 h2 fun i x v hx hv => (h3 i x v hx hv).1
    simpa using this
  · rename_i xs ys
    simp only [Bool.and_eq_true, List.isEmpty_iff] at h
    obtain ⟨h1, rfl⟩ := h
    have : xs = #[] := by cases xs; simp_all
    subst this
    exact VR.tuple [] [] rfl (by simp)
  · exact (okConst1_ok h).1

def okArg : Operand → Arg → Bool
  | .tmp t, .t s => t == s
  | .const x, .k y => okConst x y
  | .func g, .f g' => g == g' && decide (g < yb)
  | _, _ => false

theorem okArg_ok {s : Sim} {L : Env} {a : Act} {x : Operand} {y : Arg} {v : AV} (hL : LR s L a.tmps) (h : okArg x y = true) (hv : y.ev L = some v) : VR s v (a.eval x) := by
  cases x <;> cases y <;> first | (simp only [okArg] at h; cases h; done) | skip
  case tmp.t t t' =>
    have : t = t' := by simpa [okArg] using h
    subst this
    exact (hL _ _ hv).2
  case const.k x y =>
    simp only [Arg.ev, Option.some.injEq] at hv
    subst hv
    exact okConst_ok h
  case func.f g g' =>
    simp only [okArg, Bool.and_eq_true, beq_iff_eq, decide_eq_true_eq] at h
    obtain ⟨rfl, hg⟩ := h
    simp only [Arg.ev, Option.some.injEq] at hv
    subst hv
    exact .func g [] [] [] [] rfl rfl (by simp) (by simp) hg

def okArgs : List Operand → List Arg → Bool
  | [], [] => true
  | x :: xs, y :: ys => okArg x y && okArgs xs ys
  | _, _ => false

theorem okArgs_ok {s : Sim} {L : Env} {a : Act} (hL : LR s L a.tmps) : ∀ {xs : List Operand} {ys : List Arg} {vs : List AV}, okArgs xs ys = true → evArgs L ys = some vs →
    vs.length = (xs.map a.eval).length ∧ ∀ (i : Nat) (x : AV) (v : Value), vs[i]? = some x → (xs.map a.eval)[i]? = some v → VR s x v := by
  intro xs
  induction xs with
  | nil =>
    intro ys vs h hv
    cases ys with
    | nil => simp only [evArgs, Option.some.injEq] at hv; subst hv; exact ⟨rfl, by simp⟩
    | cons y ys => simp [okArgs] at h
  | cons x xs ih =>
    intro ys vs h hv
    cases ys with
    | nil => simp [okArgs] at h
    | cons y ys =>
      simp only [okArgs, Bool.and_eq_true] at h
      simp only [evArgs] at hv
      split at hv
      · cases hv
      · rename_i v1 e1
        split at hv
        · cases hv
        · rename_i vs1 e2
          simp only [Option.some.injEq] at hv
          subst hv
          obtain ⟨h1, h2⟩ := ih h.2 e2
          refine ⟨by simpa using h1, fun i x v hx hv => ?_⟩
          cases i with
          | zero =>
            simp only [List.getElem?_cons_zero, Option.some.injEq, List.map_cons] at hx hv
            subst hx; subst hv
            exact okArg_ok hL h.1 e1
          | succ i => exact h2 i x v (by simpa using hx) (by simpa using hv)

/-! Types. -/

def szOf (P : Program) (t : TypeId) : Option Nat := (P.info? t).map (·.size)

theorem run_sizeOf {P : Program} {t : TypeId} {n : Nat} {w : World} (h : szOf P t = some n) : (sizeOf t).run P w = .ok n w := by
  simp only [szOf, Option.map_eq_some_iff] at h
  obtain ⟨i, h1, rfl⟩ := h
  simp [sizeOf, typeInfo, h1]

def aggOf (P : Program) (t : TypeId) : Option Bool :=
  match P.underlying t with
  | some (.struct _) | some (.array _ _) => some true
  | some _ => some false
  | none => none

theorem run_isAgg {P : Program} {t : TypeId} {b : Bool} {w : World} (h : aggOf P t = some b) : (isAgg t).run P w = .ok b w := by
  unfold aggOf at h
  unfold isAgg underlying
  split at h <;> simp_all

/-- How a type's values are taken: one cell, or so many as a struct. -/
def okPart (P : Program) (t : TypeId) (k : Option Nat) : Bool :=
  match aggOf P t, szOf P t, k with
  | some true, some n, some m => n == m && decide (0 < n)
  | some false, some n, none => n == 1
  | _, _, _ => false

def okSize (P : Program) (t : TypeId) (k : Nat) : Bool :=
  match szOf P t with
  | some n => n == k && decide (0 < n)
  | none => false

def okZero (P : Program) (t : TypeId) (cs : List AV) : Bool :=
  match P.info? t with
  | some i => match i.zero with
    | some z => okConsts z.cells.toList cs
    | none => false
  | none => false

theorem run_zeroValue {P : Program} {t : TypeId} {cs : List AV} {w : World} (h : okZero P t cs = true) : ∃ z, (zeroValue t).run P w = .ok z w ∧ okConsts z.cells.toList cs = true := by
  unfold okZero at h
  split at h
  · rename_i i hi
    split at h
    · rename_i z hz
      exact ⟨z, by simp [zeroValue, typeInfo, hi, hz], h⟩
    · cases h
  · cases h

def zeroVal (P : Program) (t : TypeId) (x : AV) : Bool :=
  match P.info? t with
  | some i => match i.zero with
    | some z => okConst z x
    | none => false
  | none => false

theorem run_zeroVal {P : Program} {t : TypeId} {x : AV} {w : World} (h : zeroVal P t x = true) : ∃ z, (zeroValue t).run P w = .ok z w ∧ okConst z x = true := by
  unfold zeroVal at h
  split at h
  · rename_i i hi
    split at h
    · rename_i z hz
      exact ⟨z, by simp [zeroValue, typeInfo, hi, hz], h⟩
    · cases h
  · cases h

end Go.Am
