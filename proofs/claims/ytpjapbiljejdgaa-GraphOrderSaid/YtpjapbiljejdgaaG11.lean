import Derived.KernelRfl
import Derived.Test.YtpjapbiljejdgaaG11Fns
import Derived.Test.YtpjapbiljejdgaaAmLaws
open Go Go.Am
namespace Go.Proofs.G11
set_option linter.unusedSimpArgs false
set_option linter.unusedVariables false
set_option linter.unusedSectionVars false
set_option linter.unnecessarySimpa false

/-- A list of whole numbers; a list of such. -/
abbrev vI (xs : List Int) : AV := .list .shared 1 (xs.map (AV.int .i64))
abbrev vL (xs : List (List Int)) : AV := .list .shared 1 (xs.map vI)

theorem under_vI {n : Nat} {xs : List (List Int)} : AV.underAll n (xs.map vI) = true := underAll_map fun _ _ => by simp

/-! great -/
def great (i : Nat) (xs : List (List Int)) : Bool :=
  match xs with
  | [] => decide (20 < (i : Int))
  | x :: xs => if i ≤ 20 then if 60 < x.length then true else great (i + 1) xs else true

theorem loop7 (n : Nat) (os : List AObj) (hn : os.length = n) (pre xs : List (List Int)) (h : pre.length + xs.length < 9223372036854775808) :
   thenE (catchE (It T b7_0 [0, 3] (some (n, none)) [(0, vL (pre ++ xs)), (3, .int .i64 pre.length)] ⟨os, none⟩) 0) (Ev T b7_3) = some (.ret, [(2, .bool (great pre.length xs))], ⟨os, none⟩) := by
  induction xs generalizing pre with
  | nil =>
    rw [It_step]
    simp (disch := first | omega | (simp only [List.length_append, List.length_cons, List.length_nil, List.length_set, List.length_map, List.length_replicate, List.length_range]; omega)) only [go_sem, ↓reduceIte, Nat.reduceEqDiff, Nat.reduceAdd, Nat.reduceMul, Nat.reduceSub, Nat.reduceLT, Nat.reduceLeDiff, Nat.reduceGT, Int.reduceLT, Int.reduceLE, Int.reduceEq, Int.reduceAdd, Int.reduceNeg, Int.reduceToNat, String.reduceEq, Bool.not_eq_true, Bool.false_eq_true, if_true, if_false, reduceCtorEq, not_true_eq_false, not_false_eq_true, decide_true, decide_false, and_self, true_or, or_true, false_or, or_false, false_and, and_false, ne_eq, Bool.or_true, Bool.true_or, Bool.or_false, Bool.false_or, if_pos, if_neg, decide_eq_true, decide_eq_false, unf b7_0.eq_1, unf b7_3.eq_1, under_vI, great]
  | cons x xs ih =>
    rw [It_step]
    have h2 := ih (pre ++ [x]) (by simp at h ⊢; omega)
    simp only [List.append_assoc, List.cons_append, List.nil_append, List.length_append, List.length_cons, List.length_nil] at h2
    simp only [List.length_cons] at h
    by_cases hl : pre.length ≤ 20
    · by_cases hx : 60 < x.length
      · simp (disch := first | omega | (simp only [List.length_append, List.length_cons, List.length_nil, List.length_set, List.length_map, List.length_replicate, List.length_range]; omega)) only [go_sem, ↓reduceIte, Nat.reduceEqDiff, Nat.reduceAdd, Nat.reduceMul, Nat.reduceSub, Nat.reduceLT, Nat.reduceLeDiff, Nat.reduceGT, Int.reduceLT, Int.reduceLE, Int.reduceEq, Int.reduceAdd, Int.reduceNeg, Int.reduceToNat, String.reduceEq, Bool.not_eq_true, Bool.false_eq_true, if_true, if_false, reduceCtorEq, not_true_eq_false, not_false_eq_true, decide_true, decide_false, and_self, true_or, or_true, false_or, or_false, false_and, and_false, ne_eq, Bool.or_true, Bool.true_or, Bool.or_false, Bool.false_or, if_pos, if_neg, decide_eq_true, decide_eq_false, unf b7_0.eq_1, unf b7_1.eq_1, unf b7_2.eq_1, under_vI, great, hl, hx]
      · simp (disch := first | omega | (simp only [List.length_append, List.length_cons, List.length_nil, List.length_set, List.length_map, List.length_replicate, List.length_range]; omega)) only [go_sem, ↓reduceIte, Nat.reduceEqDiff, Nat.reduceAdd, Nat.reduceMul, Nat.reduceSub, Nat.reduceLT, Nat.reduceLeDiff, Nat.reduceGT, Int.reduceLT, Int.reduceLE, Int.reduceEq, Int.reduceAdd, Int.reduceNeg, Int.reduceToNat, String.reduceEq, Bool.not_eq_true, Bool.false_eq_true, if_true, if_false, reduceCtorEq, not_true_eq_false, not_false_eq_true, decide_true, decide_false, and_self, true_or, or_true, false_or, or_false, false_and, and_false, ne_eq, Bool.or_true, Bool.true_or, Bool.or_false, Bool.false_or, if_pos, if_neg, decide_eq_true, decide_eq_false, unf b7_0.eq_1, unf b7_1.eq_1, unf b7_2.eq_1, under_vI, great, wrap_id, hl, hx]
        exact h2
    · simp (disch := first | omega | (simp only [List.length_append, List.length_cons, List.length_nil, List.length_set, List.length_map, List.length_replicate, List.length_range]; omega)) only [go_sem, ↓reduceIte, Nat.reduceEqDiff, Nat.reduceAdd, Nat.reduceMul, Nat.reduceSub, Nat.reduceLT, Nat.reduceLeDiff, Nat.reduceGT, Int.reduceLT, Int.reduceLE, Int.reduceEq, Int.reduceAdd, Int.reduceNeg, Int.reduceToNat, String.reduceEq, Bool.not_eq_true, Bool.false_eq_true, if_true, if_false, reduceCtorEq, not_true_eq_false, not_false_eq_true, decide_true, decide_false, and_self, true_or, or_true, false_or, or_false, false_and, and_false, ne_eq, Bool.or_true, Bool.true_or, Bool.or_false, Bool.false_or, if_pos, if_neg, decide_eq_true, decide_eq_false, unf b7_0.eq_1, unf b7_3.eq_1, under_vI, great, hl]

theorem call7 (M : Mem) (xs : List (List Int)) (h : xs.length < 9223372036854775808) : Am.Call T 7 [vL xs] M = some (.bool (great 0 xs), M) := by
  have h1 := loop7 M.objs.length M.objs rfl [] xs (by simpa using h)
  rw [Call_fn (fn := f7) rfl rfl]
  simp (disch := first | omega | (simp only [List.length_append, List.length_cons, List.length_nil, List.length_set, List.length_map, List.length_replicate, List.length_range]; omega)) only [go_sem, ↓reduceIte, Nat.reduceEqDiff, Nat.reduceAdd, Nat.reduceMul, Nat.reduceSub, Nat.reduceLT, Nat.reduceLeDiff, Nat.reduceGT, Int.reduceLT, Int.reduceLE, Int.reduceEq, Int.reduceAdd, Int.reduceNeg, Int.reduceToNat, String.reduceEq, Bool.not_eq_true, Bool.false_eq_true, if_true, if_false, reduceCtorEq, not_true_eq_false, not_false_eq_true, decide_true, decide_false, and_self, true_or, or_true, false_or, or_false, false_and, and_false, ne_eq, Bool.or_true, Bool.true_or, Bool.or_false, Bool.false_or, if_pos, if_neg, decide_eq_true, decide_eq_false, unf b7.eq_1, f7]
  simp only [List.nil_append, List.length_nil] at h1
  rw [show ((0 : Nat) : Int) = 0 from rfl] at h1
  rw [h1]
  simp (disch := first | omega | (simp only [List.length_append, List.length_cons, List.length_nil, List.length_set, List.length_map, List.length_replicate, List.length_range]; omega)) only [go_sem, ↓reduceIte, Nat.reduceEqDiff, Nat.reduceAdd, Nat.reduceMul, Nat.reduceSub, Nat.reduceLT, Nat.reduceLeDiff, Nat.reduceGT, Int.reduceLT, Int.reduceLE, Int.reduceEq, Int.reduceAdd, Int.reduceNeg, Int.reduceToNat, String.reduceEq, Bool.not_eq_true, Bool.false_eq_true, if_true, if_false, reduceCtorEq, not_true_eq_false, not_false_eq_true, decide_true, decide_false, and_self, true_or, or_true, false_or, or_false, false_and, and_false, ne_eq, Bool.or_true, Bool.true_or, Bool.or_false, Bool.false_or, if_pos, if_neg, decide_eq_true, decide_eq_false]

/-! ints -/
theorem loop11 (n : Nat) (os : List AObj) (hn : os.length = n) (pa pb xs ys : List Int) (hp : pa.length = pb.length) (hl : xs.length = ys.length) (h : pa.length + xs.length < 9223372036854775808) :
    thenE (catchE (It T b11_1 [0, 1, 5] (some (n, none)) [(0, vI (pa ++ xs)), (1, vI (pb ++ ys)), (5, .int .i64 pa.length)] ⟨os, none⟩) 0) (Ev T b11_5) = some (.ret, [(4, .bool (decide (xs = ys)))], ⟨os, none⟩) := by
  induction xs generalizing pa pb ys with
  | nil =>
    have : ys = [] := by cases ys with | nil => rfl | cons y ys => simp at hl
    subst this
    rw [It_step]
    simp (disch := first | omega | (simp only [List.length_append, List.length_cons, List.length_nil, List.length_set, List.length_map, List.length_replicate, List.length_range]; omega)) only [go_sem, ↓reduceIte, Nat.reduceEqDiff, Nat.reduceAdd, Nat.reduceMul, Nat.reduceSub, Nat.reduceLT, Nat.reduceLeDiff, Nat.reduceGT, Int.reduceLT, Int.reduceLE, Int.reduceEq, Int.reduceAdd, Int.reduceNeg, Int.reduceToNat, String.reduceEq, Bool.not_eq_true, Bool.false_eq_true, if_true, if_false, reduceCtorEq, not_true_eq_false, not_false_eq_true, decide_true, decide_false, and_self, true_or, or_true, false_or, or_false, false_and, and_false, ne_eq, Bool.or_true, Bool.true_or, Bool.or_false, Bool.false_or, if_pos, if_neg, decide_eq_true, decide_eq_false, unf b11_1.eq_1, unf b11_5.eq_1]
  | cons x xs ih =>
    cases ys with
    | nil => simp at hl
    | cons y ys =>
      rw [It_step]
      have h2 := ih (pa ++ [x]) (pb ++ [y]) ys (by simp [hp]) (by simpa using hl) (by simp at h ⊢; omega)
      simp only [List.append_assoc, List.cons_append, List.nil_append, List.length_append, List.length_cons, List.length_nil] at h2
      simp only [List.length_cons] at h
      have hy : (pb.map (AV.int .i64) ++ AV.int .i64 y :: ys.map (AV.int .i64))[pa.length]? = some (.int .i64 y) := by rw [hp]; exact mid_get
      by_cases hx : x = y
      · subst hx
        simp (disch := first | omega | (simp only [List.length_append, List.length_cons, List.length_nil, List.length_set, List.length_map, List.length_replicate, List.length_range]; omega)) only [go_sem, ↓reduceIte, Nat.reduceEqDiff, Nat.reduceAdd, Nat.reduceMul, Nat.reduceSub, Nat.reduceLT, Nat.reduceLeDiff, Nat.reduceGT, Int.reduceLT, Int.reduceLE, Int.reduceEq, Int.reduceAdd, Int.reduceNeg, Int.reduceToNat, String.reduceEq, Bool.not_eq_true, Bool.false_eq_true, if_true, if_false, reduceCtorEq, not_true_eq_false, not_false_eq_true, decide_true, decide_false, and_self, true_or, or_true, false_or, or_false, false_and, and_false, ne_eq, Bool.or_true, Bool.true_or, Bool.or_false, Bool.false_or, if_pos, if_neg, decide_eq_true, decide_eq_false, unf b11_1.eq_1, unf b11_2.eq_1, Ev_regD q11_3, unfP d11_3.eq_1, unf b11_4.eq_1, wrap_id, hy, List.cons.injEq]
        exact h2
      · simp (disch := first | omega | (simp only [List.length_append, List.length_cons, List.length_nil, List.length_set, List.length_map, List.length_replicate, List.length_range]; omega)) only [go_sem, ↓reduceIte, Nat.reduceEqDiff, Nat.reduceAdd, Nat.reduceMul, Nat.reduceSub, Nat.reduceLT, Nat.reduceLeDiff, Nat.reduceGT, Int.reduceLT, Int.reduceLE, Int.reduceEq, Int.reduceAdd, Int.reduceNeg, Int.reduceToNat, String.reduceEq, Bool.not_eq_true, Bool.false_eq_true, if_true, if_false, reduceCtorEq, not_true_eq_false, not_false_eq_true, decide_true, decide_false, and_self, true_or, or_true, false_or, or_false, false_and, and_false, ne_eq, Bool.or_true, Bool.true_or, Bool.or_false, Bool.false_or, if_pos, if_neg, decide_eq_true, decide_eq_false, unf b11_1.eq_1, unf b11_2.eq_1, Ev_regD q11_3, unfP d11_3.eq_1, unf b11_4.eq_1, wrap_id, hx, hy, List.cons.injEq]

theorem call11 (M : Mem) (xs ys : List Int) (h : xs.length < 9223372036854775808) (h' : ys.length < 9223372036854775808) : Am.Call T 11 [vI xs, vI ys] M = some (.bool (decide (xs = ys)), M) := by
  rw [Call_fn (fn := f11) rfl rfl]
  by_cases hl : xs.length = ys.length
  · have h1 := loop11 M.objs.length M.objs rfl [] [] xs ys rfl hl (by simpa using h)
    simp only [List.nil_append, List.length_nil] at h1
    rw [show ((0 : Nat) : Int) = 0 from rfl] at h1
    simp (disch := first | omega | (simp only [List.length_append, List.length_cons, List.length_nil, List.length_set, List.length_map, List.length_replicate, List.length_range]; omega)) only [go_sem, ↓reduceIte, Nat.reduceEqDiff, Nat.reduceAdd, Nat.reduceMul, Nat.reduceSub, Nat.reduceLT, Nat.reduceLeDiff, Nat.reduceGT, Int.reduceLT, Int.reduceLE, Int.reduceEq, Int.reduceAdd, Int.reduceNeg, Int.reduceToNat, String.reduceEq, Bool.not_eq_true, Bool.false_eq_true, if_true, if_false, reduceCtorEq, not_true_eq_false, not_false_eq_true, decide_true, decide_false, and_self, true_or, or_true, false_or, or_false, false_and, and_false, ne_eq, Bool.or_true, Bool.true_or, Bool.or_false, Bool.false_or, if_pos, if_neg, decide_eq_true, decide_eq_false, unf b11.eq_1, unf b11_0.eq_1, f11, hl]
    rw [h1]
    simp (disch := first | omega | (simp only [List.length_append, List.length_cons, List.length_nil, List.length_set, List.length_map, List.length_replicate, List.length_range]; omega)) only [go_sem, ↓reduceIte, Nat.reduceEqDiff, Nat.reduceAdd, Nat.reduceMul, Nat.reduceSub, Nat.reduceLT, Nat.reduceLeDiff, Nat.reduceGT, Int.reduceLT, Int.reduceLE, Int.reduceEq, Int.reduceAdd, Int.reduceNeg, Int.reduceToNat, String.reduceEq, Bool.not_eq_true, Bool.false_eq_true, if_true, if_false, reduceCtorEq, not_true_eq_false, not_false_eq_true, decide_true, decide_false, and_self, true_or, or_true, false_or, or_false, false_and, and_false, ne_eq, Bool.or_true, Bool.true_or, Bool.or_false, Bool.false_or, if_pos, if_neg, decide_eq_true, decide_eq_false]
  · have hne : ¬ xs = ys := fun e => hl (by rw [e])
    simp (disch := first | omega | (simp only [List.length_append, List.length_cons, List.length_nil, List.length_set, List.length_map, List.length_replicate, List.length_range]; omega)) only [go_sem, ↓reduceIte, Nat.reduceEqDiff, Nat.reduceAdd, Nat.reduceMul, Nat.reduceSub, Nat.reduceLT, Nat.reduceLeDiff, Nat.reduceGT, Int.reduceLT, Int.reduceLE, Int.reduceEq, Int.reduceAdd, Int.reduceNeg, Int.reduceToNat, String.reduceEq, Bool.not_eq_true, Bool.false_eq_true, if_true, if_false, reduceCtorEq, not_true_eq_false, not_false_eq_true, decide_true, decide_false, and_self, true_or, or_true, false_or, or_false, false_and, and_false, ne_eq, Bool.or_true, Bool.true_or, Bool.or_false, Bool.false_or, if_pos, if_neg, decide_eq_true, decide_eq_false, unf b11.eq_1, unf b11_0.eq_1, f11, hl, hne]

/-! the first that is false -/
theorem call25 (M : Mem) (b : Bool) : Am.Call T 25 [.bool b] M = some (.bool (!b), M) := by
  rw [Call_fn (fn := f25) rfl rfl]
  simp (disch := first | omega | (simp only [List.length_append, List.length_cons, List.length_nil, List.length_set, List.length_map, List.length_replicate, List.length_range]; omega)) only [go_sem, ↓reduceIte, Nat.reduceEqDiff, Nat.reduceAdd, Nat.reduceMul, Nat.reduceSub, Nat.reduceLT, Nat.reduceLeDiff, Nat.reduceGT, Int.reduceLT, Int.reduceLE, Int.reduceEq, Int.reduceAdd, Int.reduceNeg, Int.reduceToNat, String.reduceEq, Bool.not_eq_true, Bool.false_eq_true, if_true, if_false, reduceCtorEq, not_true_eq_false, not_false_eq_true, decide_true, decide_false, and_self, true_or, or_true, false_or, or_false, false_and, and_false, ne_eq, Bool.or_true, Bool.true_or, Bool.or_false, Bool.false_or, if_pos, if_neg, decide_eq_true, decide_eq_false, unf b25.eq_1, f25]

-- LENS rowB_len, refs_len
/-! rows of truth values -/
def rowB (n : Nat) (f : Nat → Bool) : List AV := (List.range n).map fun k => .bool (f k)
def refs (n : Nat) (id : Nat → Nat) : List AV := (List.range n).map fun i => .ref (id i) 0 0 n

theorem rowB_get {n k : Nat} {f : Nat → Bool} (h : k < n) : (rowB n f)[k]? = some (.bool (f k)) := by
  simp [rowB, List.getElem?_range h]
@[go_sem] theorem rowB_len {n : Nat} {f : Nat → Bool} : (rowB n f).length = n := by simp [rowB]
@[go_sem] theorem rowB_under {m n : Nat} {f : Nat → Bool} : AV.underAll m (rowB n f) = true := underAll_map fun _ _ => rfl
theorem rowB_set {n i : Nat} {f : Nat → Bool} : (rowB n f).set i (.bool true) = rowB n (fun k => f k || decide (k = i)) := by
  apply List.ext_getElem?
  intro k
  by_cases hk : k < n
  · rw [rowB_get hk, List.getElem?_set]
    by_cases hi : i = k
    · subst hi; simp [rowB_len, hk]
    · have : ¬ k = i := fun e => hi e.symm
      simp [hi, this, rowB_get hk]
  · rw [List.getElem?_eq_none (by simp [rowB_len]; omega), List.getElem?_eq_none (by simp [rowB_len]; omega)]
theorem rowB_false {n : Nat} : List.replicate n (AV.bool false) = rowB n (fun _ => false) := by
  apply List.ext_getElem?
  intro k
  by_cases hk : k < n
  · rw [rowB_get hk]; simp [hk]
  · rw [List.getElem?_eq_none (by simp; omega), List.getElem?_eq_none (by simp [rowB_len]; omega)]
theorem refs_get {n i : Nat} {id : Nat → Nat} (h : i < n) : (refs n id)[i]? = some (.ref (id i) 0 0 n) := by
  simp [refs, List.getElem?_range h]
@[go_sem] theorem refs_len {n : Nat} {id : Nat → Nat} : (refs n id).length = n := by simp [refs]
attribute [go_sem] rowB_get refs_get

/-- The rows of a table. -/
def TabAt (os : List AObj) (id : Nat → Nat) (n : Nat) (f : Nat → Nat → Bool) : Prop := ∀ i, i < n → os[id i]? = some (.row 0 (rowB n (f i)))

def upd (f : Nat → Nat → Bool) (i k : Nat) : Nat → Nat → Bool := fun a b => f a b || (decide (a = i) && decide (b = k))

theorem TabAt.set {os : List AObj} {id : Nat → Nat} {n : Nat} {f : Nat → Nat → Bool} (h : TabAt os id n f) (hid : ∀ i j, id i = id j → i = j) {i k : Nat} (hi : i < n) : TabAt (os.set (id i) (.row 0 (rowB n fun b => f i b || decide (b = k)))) id n (upd f i k) := by
  intro a ha
  by_cases hai : a = i
  · subst hai
    have hl : id a < os.length := by
      have := h a ha
      exact (List.getElem?_eq_some_iff.1 this).1
    rw [List.getElem?_set_self hl]
    congr 3
    funext b
    simp [upd]
  · rw [List.getElem?_set_ne (fun e => hai (hid _ _ e).symm), h a ha]
    congr 3
    funext b
    simp [upd, hai]

/-! the table of the reference -/
theorem loop26 (n a : Nat) (os : List AObj) (ha : os.length = a) (hn : n < 1000000) : ∀ (k i : Nat), i + k = n →
    thenE (catchE (It T b26_0 [0, 3, 4] none [(0, .int .i64 n), (3, .list (.own a) 1 ((List.range i).map fun j => .ref (a + 1 + j) 0 0 n)), (4, .int .i64 i)]
      ⟨os ++ .tip i :: List.replicate i (.row 0 (rowB n fun _ => false)), none⟩) 0) (Ev T b26_2) =
    some (.ret, [(2, .list (.own a) 1 ((List.range n).map fun j => .ref (a + 1 + j) 0 0 n))], ⟨os ++ .tip n :: List.replicate n (.row 0 (rowB n fun _ => false)), none⟩) := by
  intro k
  induction k with
  | zero =>
    intro i hi
    have : i = n := by omega
    subst this
    rw [It_step]
    simp (disch := first | omega | (simp only [List.length_append, List.length_cons, List.length_nil, List.length_set, List.length_map, List.length_replicate, List.length_range, rowB_len, refs_len]; omega)) only [go_sem, ↓reduceIte, Nat.reduceEqDiff, Nat.reduceAdd, Nat.reduceMul, Nat.reduceSub, Nat.reduceLT, Nat.reduceLeDiff, Nat.reduceGT, Int.reduceLT, Int.reduceLE, Int.reduceEq, Int.reduceAdd, Int.reduceNeg, Int.reduceToNat, String.reduceEq, Bool.not_eq_true, Bool.false_eq_true, if_true, if_false, reduceCtorEq, not_true_eq_false, not_false_eq_true, decide_true, decide_false, and_self, true_or, or_true, false_or, or_false, false_and, and_false, ne_eq, Bool.or_true, Bool.true_or, Bool.or_false, Bool.false_or, if_pos, if_neg, decide_eq_true, decide_eq_false, unf b26_0.eq_1, unf b26_2.eq_1]
  | succ k ih =>
    intro i hi
    rw [It_step]
    have h2 := ih (i + 1) (by omega)
    have hr : (List.range (i + 1)).map (fun j => AV.ref (a + 1 + j) 0 0 n) = (List.range i).map (fun j => AV.ref (a + 1 + j) 0 0 n) ++ [AV.ref (a + 1 + i) 0 0 n] := by
      rw [List.range_succ, List.map_append]; rfl
    have hg : ∀ l : List AObj, (os ++ l)[a]? = l[0]? := by intro l; rw [← ha]; exact app_get
    have hs : ∀ (l : List AObj) (o : AObj), (os ++ l).set a o = os ++ l.set 0 o := by intro l o; rw [← ha]; exact app_set
    have hl : (os ++ AObj.tip i :: List.replicate i (AObj.row 0 (rowB n fun _ => false))).length = a + 1 + i := by simp [ha]; omega
    have hw : IntKind.wrap .i64 ((i : Int) + 1) = ((i + 1 : Nat) : Int) := by rw [wrap_id] <;> omega
    simp (disch := first | omega | (simp only [List.length_append, List.length_cons, List.length_nil, List.length_set, List.length_map, List.length_replicate, List.length_range, rowB_len, refs_len]; omega)) only [go_sem, ↓reduceIte, Nat.reduceEqDiff, Nat.reduceAdd, Nat.reduceMul, Nat.reduceSub, Nat.reduceLT, Nat.reduceLeDiff, Nat.reduceGT, Int.reduceLT, Int.reduceLE, Int.reduceEq, Int.reduceAdd, Int.reduceNeg, Int.reduceToNat, String.reduceEq, Bool.not_eq_true, Bool.false_eq_true, if_true, if_false, reduceCtorEq, not_true_eq_false, not_false_eq_true, decide_true, decide_false, and_self, true_or, or_true, false_or, or_false, false_and, and_false, ne_eq, Bool.or_true, Bool.true_or, Bool.or_false, Bool.false_or, if_pos, if_neg, decide_eq_true, decide_eq_false, unf b26_0.eq_1, unf b26_1.eq_1, mkSlice_row1, hl, hg, hs, hw, List.length_range, rowB_false]
    rw [hr, List.replicate_succ'] at h2
    simpa only [List.append_assoc, List.cons_append, List.nil_append, List.set_cons_zero] using h2

theorem call26 (M : Mem) (n : Nat) (hn : n < 1000000) : Am.Call T 26 [.int .i64 n] M =
    some (.list .shared 1 (refs n fun j => M.objs.length + 1 + j), ⟨M.objs ++ .tip n :: List.replicate n (.row 0 (rowB n fun _ => false)), M.bad⟩) := by
  have h1 := loop26 n M.objs.length M.objs rfl hn n 0 (by omega)
  rw [Call_fn (fn := f26) rfl rfl]
  simp only [List.range_zero, List.map_nil, List.replicate_zero] at h1
  rw [show ((0 : Nat) : Int) = 0 from rfl] at h1
  simp (disch := first | omega | (simp only [List.length_append, List.length_cons, List.length_nil, List.length_set, List.length_map, List.length_replicate, List.length_range, rowB_len, refs_len]; omega)) only [go_sem, ↓reduceIte, Nat.reduceEqDiff, Nat.reduceAdd, Nat.reduceMul, Nat.reduceSub, Nat.reduceLT, Nat.reduceLeDiff, Nat.reduceGT, Int.reduceLT, Int.reduceLE, Int.reduceEq, Int.reduceAdd, Int.reduceNeg, Int.reduceToNat, String.reduceEq, Bool.not_eq_true, Bool.false_eq_true, if_true, if_false, reduceCtorEq, not_true_eq_false, not_false_eq_true, decide_true, decide_false, and_self, true_or, or_true, false_or, or_false, false_and, and_false, ne_eq, Bool.or_true, Bool.true_or, Bool.or_false, Bool.false_or, if_pos, if_neg, decide_eq_true, decide_eq_false, unf b26.eq_1, f26]
  rw [h1]
  simp (disch := first | omega | (simp only [List.length_append, List.length_cons, List.length_nil, List.length_set, List.length_map, List.length_replicate, List.length_range, rowB_len, refs_len]; omega)) only [go_sem, ↓reduceIte, Nat.reduceEqDiff, Nat.reduceAdd, Nat.reduceMul, Nat.reduceSub, Nat.reduceLT, Nat.reduceLeDiff, Nat.reduceGT, Int.reduceLT, Int.reduceLE, Int.reduceEq, Int.reduceAdd, Int.reduceNeg, Int.reduceToNat, String.reduceEq, Bool.not_eq_true, Bool.false_eq_true, if_true, if_false, reduceCtorEq, not_true_eq_false, not_false_eq_true, decide_true, decide_false, and_self, true_or, or_true, false_or, or_false, false_and, and_false, ne_eq, Bool.or_true, Bool.true_or, Bool.or_false, Bool.false_or, if_pos, if_neg, decide_eq_true, decide_eq_false]
  cases h : M.bad <;> simp [shrink, minBad, refs]
/-! a table written -/
def putN (os : List AObj) (id : Nat → Nat) (n : Nat) (f : Nat → Nat → Bool) : Nat → List AObj
  | 0 => os
  | m + 1 => (putN os id n f m).set (id m) (.row 0 (rowB n (f m)))
def put (os : List AObj) (id : Nat → Nat) (n : Nat) (f : Nat → Nat → Bool) : List AObj := putN os id n f n

structure Ids (os : List AObj) (id : Nat → Nat) (n : Nat) : Prop where
  inj : ∀ i j, id i = id j → i = j
  lt : ∀ i, i < n → id i < os.length

theorem putN_len {os : List AObj} {id : Nat → Nat} {n : Nat} {f : Nat → Nat → Bool} {m : Nat} : (putN os id n f m).length = os.length := by
  induction m with
  | zero => rfl
  | succ m ih => simp [putN, ih]
@[go_sem] theorem put_len {os : List AObj} {id : Nat → Nat} {n : Nat} {f : Nat → Nat → Bool} : (put os id n f).length = os.length := putN_len

theorem putN_get {os : List AObj} {id : Nat → Nat} {n : Nat} (h : Ids os id n) {f : Nat → Nat → Bool} {m : Nat} (hm : m ≤ n) {i : Nat} (hi : i < m) : (putN os id n f m)[id i]? = some (.row 0 (rowB n (f i))) := by
  induction m with
  | zero => omega
  | succ m ih =>
    simp only [putN]
    by_cases hc : i = m
    · subst hc
      rw [List.getElem?_set_self]
      rw [putN_len]; exact h.lt _ (by omega)
    · rw [List.getElem?_set_ne (fun e => hc (h.inj _ _ e).symm)]
      exact ih (by omega) (by omega)
theorem putN_other {os : List AObj} {id : Nat → Nat} {n : Nat} {f : Nat → Nat → Bool} {m : Nat} {j : Nat} (hj : ∀ i, i < m → id i ≠ j) : (putN os id n f m)[j]? = os[j]? := by
  induction m with
  | zero => rfl
  | succ m ih =>
    simp only [putN]
    rw [List.getElem?_set_ne (hj m (by omega))]
    exact ih fun i hi => hj i (by omega)
theorem put_get {os : List AObj} {id : Nat → Nat} {n : Nat} (h : Ids os id n) {f : Nat → Nat → Bool} {i : Nat} (hi : i < n) : (put os id n f)[id i]? = some (.row 0 (rowB n (f i))) := putN_get h (Nat.le_refl _) hi
theorem put_other {os : List AObj} {id : Nat → Nat} {n : Nat} {f : Nat → Nat → Bool} {j : Nat} (hj : ∀ i, i < n → id i ≠ j) : (put os id n f)[j]? = os[j]? := putN_other hj
theorem put_ext {os xs : List AObj} {id : Nat → Nat} {n : Nat} (h : Ids os id n) {f : Nat → Nat → Bool} (h1 : ∀ i, i < n → xs[id i]? = some (.row 0 (rowB n (f i)))) (h2 : ∀ j, (∀ i, i < n → id i ≠ j) → xs[j]? = os[j]?) : xs = put os id n f := by
  apply List.ext_getElem?
  intro j
  by_cases hj : ∃ i, i < n ∧ id i = j
  · obtain ⟨i, hi, rfl⟩ := hj
    rw [h1 i hi, put_get h hi]
  · have hj' : ∀ i, i < n → id i ≠ j := fun i hi e => hj ⟨i, hi, e⟩
    rw [h2 j hj', put_other hj']
theorem put_set {os : List AObj} {id : Nat → Nat} {n : Nat} (h : Ids os id n) {f : Nat → Nat → Bool} {g : Nat → Bool} {i : Nat} (hi : i < n) : (put os id n f).set (id i) (.row 0 (rowB n g)) = put os id n (fun a => if a = i then g else f a) := by
  apply put_ext h
  · intro a ha
    by_cases hc : a = i
    · subst hc
      rw [List.getElem?_set_self (by rw [put_len]; exact h.lt _ hi), if_pos rfl]
    · rw [List.getElem?_set_ne (fun e => hc (h.inj _ _ e).symm), if_neg hc, put_get h ha]
  · intro j hj
    rw [List.getElem?_set_ne (hj i hi), put_other hj]

/-! who reaches whom -/
def Edge (calls : List (List Int)) (i k : Nat) : Prop := ∃ row, calls[i]? = some row ∧ (k : Int) ∈ row ∧ k < calls.length

inductive Rch (calls : List (List Int)) : Nat → Nat → Prop
  | refl (i : Nat) : Rch calls i i
  | tail {i j k : Nat} : Rch calls i j → Edge calls j k → Rch calls i k

theorem Rch.trans {calls : List (List Int)} {i j k : Nat} (h1 : Rch calls i j) (h2 : Rch calls j k) : Rch calls i k := by
  induction h2 with
  | refl => exact h1
  | tail _ he ih => exact ih.tail he

theorem Rch.lt {calls : List (List Int)} {i k : Nat} (h : Rch calls i k) (hi : i < calls.length) : k < calls.length := by
  cases h with
  | refl => exact hi
  | tail _ he => obtain ⟨_, _, _, h⟩ := he; exact h

/-! the reference's reach -/
section reach
variable {os : List AObj} {id : Nat → Nat} {n : Nat} (hI : Ids os id n)
include hI

-- LENS rowB_len, refs_len, put_len

theorem loop12_2 {calls : List (List Int)} {row : List Int} {i : Nat} (hi : i < n) (hrow : calls[i]? = some row) (hr : row.length < 9223372036854775808) : ∀ (rest pre : List Int), row = pre ++ rest → ∀ f : Nat → Nat → Bool,
    ∃ f', catchE (It T b12_2 [0, 3, 4, 5, 6] none [(0, vL calls), (3, .int .i64 n), (4, .list .shared 1 (refs n id)), (5, .int .i64 i), (6, .int .i64 pre.length)] ⟨put os id n f, none⟩) 2 =
      some (.nrm, [(0, vL calls), (3, .int .i64 n), (4, .list .shared 1 (refs n id)), (5, .int .i64 i), (6, .int .i64 row.length), (32, .bool false)], ⟨put os id n f', none⟩) ∧
      ∀ a b, f' a b = true ↔ f a b = true ∨ (a = i ∧ (b : Int) ∈ rest ∧ b < n) := by
  have hv : (calls.map vI)[i]? = some (vI row) := by simp [hrow]
  intro rest
  induction rest with
  | nil =>
    intro pre hp f
    refine ⟨f, ?_, by simp⟩
    rw [It_step]
    simp only [List.append_nil] at hp
    subst hp
    simp (disch := first | omega | (simp only [List.length_append, List.length_cons, List.length_nil, List.length_set, List.length_map, List.length_replicate, List.length_range, rowB_len, refs_len, put_len]; omega)) only [go_sem, ↓reduceIte, Nat.reduceEqDiff, Nat.reduceAdd, Nat.reduceMul, Nat.reduceSub, Nat.reduceLT, Nat.reduceLeDiff, Nat.reduceGT, Int.reduceLT, Int.reduceLE, Int.reduceEq, Int.reduceAdd, Int.reduceNeg, Int.reduceToNat, String.reduceEq, Bool.not_eq_true, Bool.false_eq_true, if_true, if_false, reduceCtorEq, not_true_eq_false, not_false_eq_true, decide_true, decide_false, and_self, true_or, or_true, false_or, or_false, false_and, and_false, ne_eq, Bool.or_true, Bool.true_or, Bool.or_false, Bool.false_or, if_pos, if_neg, decide_eq_true, decide_eq_false, unf b12_2.eq_1, hv]
  | cons c rest ih =>
    intro pre hp f
    have hlen : pre.length + (rest.length + 1) = row.length := by rw [hp]; simp
    have hw : IntKind.wrap .i64 ((pre.length : Int) + 1) = ((pre.length + 1 : Nat) : Int) := by rw [wrap_id] <;> omega
    have hc : (row.map (AV.int .i64))[pre.length]? = some (.int .i64 c) := by rw [hp, List.map_append, List.map_cons, mid_get]
    by_cases hcn : 0 ≤ c ∧ c < n
    · obtain ⟨k, rfl⟩ : ∃ k : Nat, c = k := ⟨c.toNat, by omega⟩
      have hk : k < n := by omega
      obtain ⟨f', g1, g2⟩ := ih (pre ++ [(k : Int)]) (by rw [hp]; simp) (fun a => if a = i then (fun b => f i b || decide (b = k)) else f a)
      refine ⟨f', ?_, ?_⟩
      · rw [It_step, ← g1]
        simp (disch := first | omega | (simp only [List.length_append, List.length_cons, List.length_nil, List.length_set, List.length_map, List.length_replicate, List.length_range, rowB_len, refs_len, put_len]; omega)) only [go_sem, ↓reduceIte, Nat.reduceEqDiff, Nat.reduceAdd, Nat.reduceMul, Nat.reduceSub, Nat.reduceLT, Nat.reduceLeDiff, Nat.reduceGT, Int.reduceLT, Int.reduceLE, Int.reduceEq, Int.reduceAdd, Int.reduceNeg, Int.reduceToNat, String.reduceEq, Bool.not_eq_true, Bool.false_eq_true, if_true, if_false, reduceCtorEq, not_true_eq_false, not_false_eq_true, decide_true, decide_false, and_self, true_or, or_true, false_or, or_false, false_and, and_false, ne_eq, Bool.or_true, Bool.true_or, Bool.or_false, Bool.false_or, if_pos, if_neg, decide_eq_true, decide_eq_false, unf b12_2.eq_1, unf b12_3.eq_1, unf b12_4.eq_1, hv, hc, hw, put_get hI, put_set hI, rowB_set]
      · intro a b
        rw [g2]
        by_cases ha : a = i
        · subst ha
          simp only [if_true, Bool.or_eq_true, decide_eq_true_eq, List.mem_cons, true_and]
          constructor
          · rintro ((h | rfl) | h)
            · exact .inl h
            · exact .inr ⟨.inl rfl, hk⟩
            · exact .inr ⟨.inr h.1, h.2⟩
          · rintro (h | ⟨h | h, h3⟩)
            · exact .inl (.inl h)
            · exact .inl (.inr (by omega))
            · exact .inr ⟨h, h3⟩
        · simp [ha]
    · obtain ⟨f', g1, g2⟩ := ih (pre ++ [c]) (by rw [hp]; simp) f
      refine ⟨f', ?_, ?_⟩
      · rw [It_step, ← g1]
        by_cases hc0 : 0 ≤ c
        · simp (disch := first | omega | (simp only [List.length_append, List.length_cons, List.length_nil, List.length_set, List.length_map, List.length_replicate, List.length_range, rowB_len, refs_len, put_len]; omega)) only [go_sem, ↓reduceIte, Nat.reduceEqDiff, Nat.reduceAdd, Nat.reduceMul, Nat.reduceSub, Nat.reduceLT, Nat.reduceLeDiff, Nat.reduceGT, Int.reduceLT, Int.reduceLE, Int.reduceEq, Int.reduceAdd, Int.reduceNeg, Int.reduceToNat, String.reduceEq, Bool.not_eq_true, Bool.false_eq_true, if_true, if_false, reduceCtorEq, not_true_eq_false, not_false_eq_true, decide_true, decide_false, and_self, true_or, or_true, false_or, or_false, false_and, and_false, ne_eq, Bool.or_true, Bool.true_or, Bool.or_false, Bool.false_or, if_pos, if_neg, decide_eq_true, decide_eq_false, unf b12_2.eq_1, unf b12_3.eq_1, unf b12_4.eq_1, hv, hc, hw]
        · simp (disch := first | omega | (simp only [List.length_append, List.length_cons, List.length_nil, List.length_set, List.length_map, List.length_replicate, List.length_range, rowB_len, refs_len, put_len]; omega)) only [go_sem, ↓reduceIte, Nat.reduceEqDiff, Nat.reduceAdd, Nat.reduceMul, Nat.reduceSub, Nat.reduceLT, Nat.reduceLeDiff, Nat.reduceGT, Int.reduceLT, Int.reduceLE, Int.reduceEq, Int.reduceAdd, Int.reduceNeg, Int.reduceToNat, String.reduceEq, Bool.not_eq_true, Bool.false_eq_true, if_true, if_false, reduceCtorEq, not_true_eq_false, not_false_eq_true, decide_true, decide_false, and_self, true_or, or_true, false_or, or_false, false_and, and_false, ne_eq, Bool.or_true, Bool.true_or, Bool.or_false, Bool.false_or, if_pos, if_neg, decide_eq_true, decide_eq_false, unf b12_2.eq_1, unf b12_3.eq_1, unf b12_4.eq_1, hv, hc, hw]
      · intro a b
        rw [g2]
        constructor
        · rintro (h | ⟨h1, h2, h3⟩)
          · exact .inl h
          · exact .inr ⟨h1, List.mem_cons_of_mem _ h2, h3⟩
        · rintro (h | ⟨h1, h2, h3⟩)
          · exact .inl h
          · rcases List.mem_cons.1 h2 with h4 | h4
            · exact absurd h4 (by omega)
            · exact .inr ⟨h1, h4, h3⟩

theorem loop12_0 {calls : List (List Int)} (hc : calls.length = n) (hn : n < 1000000) (hr : ∀ row, row ∈ calls → row.length < 9223372036854775808) : ∀ (k i : Nat), i + k = n → ∀ f : Nat → Nat → Bool,
    ∃ f', catchE (It T b12_0 [0, 3, 4, 5] none [(0, vL calls), (3, .int .i64 n), (4, .list .shared 1 (refs n id)), (5, .int .i64 i)] ⟨put os id n f, none⟩) 0 =
      some (.nrm, [(0, vL calls), (3, .int .i64 n), (4, .list .shared 1 (refs n id)), (5, .int .i64 n), (17, .bool false)], ⟨put os id n f', none⟩) ∧
      ∀ a b, f' a b = true ↔ f a b = true ∨ (i ≤ a ∧ a < n ∧ (b = a ∨ Edge calls a b)) := by
  intro k
  induction k with
  | zero =>
    intro i hi f
    refine ⟨f, ?_, fun a b => ⟨.inl, fun h => h.elim (fun h => h) fun h => absurd h.2.1 (by omega)⟩⟩
    have : i = n := by omega
    subst this
    rw [It_step]
    simp (disch := first | omega | (simp only [List.length_append, List.length_cons, List.length_nil, List.length_set, List.length_map, List.length_replicate, List.length_range, rowB_len, refs_len, put_len]; omega)) only [go_sem, ↓reduceIte, Nat.reduceEqDiff, Nat.reduceAdd, Nat.reduceMul, Nat.reduceSub, Nat.reduceLT, Nat.reduceLeDiff, Nat.reduceGT, Int.reduceLT, Int.reduceLE, Int.reduceEq, Int.reduceAdd, Int.reduceNeg, Int.reduceToNat, String.reduceEq, Bool.not_eq_true, Bool.false_eq_true, if_true, if_false, reduceCtorEq, not_true_eq_false, not_false_eq_true, decide_true, decide_false, and_self, true_or, or_true, false_or, or_false, false_and, and_false, ne_eq, Bool.or_true, Bool.true_or, Bool.or_false, Bool.false_or, if_pos, if_neg, decide_eq_true, decide_eq_false, unf b12_0.eq_1]
  | succ k ih =>
    intro i hi f
    have hw : IntKind.wrap .i64 ((i : Int) + 1) = ((i + 1 : Nat) : Int) := by rw [wrap_id] <;> omega
    obtain ⟨row, hrow⟩ : ∃ row, calls[i]? = some row := ⟨_, List.getElem?_eq_getElem (by omega)⟩
    obtain ⟨f1, g1, g2⟩ := loop12_2 hI (by omega : i < n) hrow (hr row (List.mem_of_getElem? hrow)) row [] rfl (fun a => if a = i then (fun b => f i b || decide (b = i)) else f a)
    obtain ⟨f2, g3, g4⟩ := ih (i + 1) (by omega) f1
    refine ⟨f2, ?_, ?_⟩
    · rw [It_step, ← g3]
      simp only [List.length_nil] at g1
      rw [show ((0 : Nat) : Int) = 0 from rfl] at g1
      simp (disch := first | omega | (simp only [List.length_append, List.length_cons, List.length_nil, List.length_set, List.length_map, List.length_replicate, List.length_range, rowB_len, refs_len, put_len]; omega)) only [go_sem, ↓reduceIte, Nat.reduceEqDiff, Nat.reduceAdd, Nat.reduceMul, Nat.reduceSub, Nat.reduceLT, Nat.reduceLeDiff, Nat.reduceGT, Int.reduceLT, Int.reduceLE, Int.reduceEq, Int.reduceAdd, Int.reduceNeg, Int.reduceToNat, String.reduceEq, Bool.not_eq_true, Bool.false_eq_true, if_true, if_false, reduceCtorEq, not_true_eq_false, not_false_eq_true, decide_true, decide_false, and_self, true_or, or_true, false_or, or_false, false_and, and_false, ne_eq, Bool.or_true, Bool.true_or, Bool.or_false, Bool.false_or, if_pos, if_neg, decide_eq_true, decide_eq_false, unf b12_0.eq_1, unf b12_1.eq_1, unf b12_5.eq_1, hw, put_get hI, put_set hI, rowB_set, g1]
    · intro a b
      rw [g4, g2]
      have he : ∀ b, Edge calls i b ↔ (b : Int) ∈ row ∧ b < n := by
        intro b
        constructor
        · rintro ⟨r, h1, h2, h3⟩
          rw [hrow] at h1; cases h1
          exact ⟨h2, by omega⟩
        · rintro ⟨h2, h3⟩
          exact ⟨row, hrow, h2, by omega⟩
      by_cases ha : a = i
      · subst ha
        rw [he]
        simp only [if_true, Bool.or_eq_true, decide_eq_true_eq, true_and]
        constructor
        · rintro ((( h | h) | h) | h)
          · exact .inl h
          · exact .inr ⟨Nat.le_refl _, by omega, .inl h⟩
          · exact .inr ⟨Nat.le_refl _, by omega, .inr h⟩
          · omega
        · rintro (h | ⟨_, _, h | h⟩)
          · exact .inl (.inl (.inl h))
          · exact .inl (.inl (.inr h))
          · exact .inl (.inr h)
      · simp only [ha, if_false, false_and, or_false]
        constructor
        · rintro (h | ⟨h1, h2⟩)
          · exact .inl h
          · exact .inr ⟨by omega, h2⟩
        · rintro (h | ⟨h1, h2⟩)
          · exact .inl h
          · exact .inr ⟨by omega, h2⟩

theorem loop12_11 (hn : n < 1000000) {m i : Nat} (hm : m < n) (hi : i < n) : ∀ (k j : Nat), j + k = n → ∀ f : Nat → Nat → Bool,
    ∃ f', catchE (It T b12_11 [3, 4, 8, 9, 10] none [(3, .int .i64 n), (4, .list .shared 1 (refs n id)), (8, .int .i64 m), (9, .int .i64 i), (10, .int .i64 j)] ⟨put os id n f, none⟩) 8 =
      some (.nrm, [(3, .int .i64 n), (4, .list .shared 1 (refs n id)), (8, .int .i64 m), (9, .int .i64 i), (10, .int .i64 n), (67, .bool false)], ⟨put os id n f', none⟩) ∧
      (∀ a b, f a b = true → f' a b = true) ∧ (∀ a b, f' a b = true → f a b = true ∨ (a = i ∧ f i m = true ∧ f m b = true ∧ b < n)) ∧
      (∀ b, j ≤ b → b < n → f i m = true → f m b = true → f' i b = true) := by
  intro k
  induction k with
  | zero =>
    intro j hj f
    refine ⟨f, ?_, fun _ _ h => h, fun _ _ h => .inl h, fun b h1 h2 => absurd h1 (by omega)⟩
    have : j = n := by omega
    subst this
    rw [It_step]
    simp (disch := first | omega | (simp only [List.length_append, List.length_cons, List.length_nil, List.length_set, List.length_map, List.length_replicate, List.length_range, rowB_len, refs_len, put_len]; omega)) only [go_sem, ↓reduceIte, Nat.reduceEqDiff, Nat.reduceAdd, Nat.reduceMul, Nat.reduceSub, Nat.reduceLT, Nat.reduceLeDiff, Nat.reduceGT, Int.reduceLT, Int.reduceLE, Int.reduceEq, Int.reduceAdd, Int.reduceNeg, Int.reduceToNat, String.reduceEq, Bool.not_eq_true, Bool.false_eq_true, if_true, if_false, reduceCtorEq, not_true_eq_false, not_false_eq_true, decide_true, decide_false, and_self, true_or, or_true, false_or, or_false, false_and, and_false, ne_eq, Bool.or_true, Bool.true_or, Bool.or_false, Bool.false_or, if_pos, if_neg, decide_eq_true, decide_eq_false, unf b12_11.eq_1]
  | succ k ih =>
    intro j hj f
    have hw : IntKind.wrap .i64 ((j : Int) + 1) = ((j + 1 : Nat) : Int) := by rw [wrap_id] <;> omega
    by_cases hb : f i m = true ∧ f m j = true
    · obtain ⟨f', g1, g2, g3, g4⟩ := ih (j + 1) (by omega) (fun a => if a = i then (fun b => f i b || decide (b = j)) else f a)
      have up : ∀ a b, f a b = true → (fun a => if a = i then (fun b => f i b || decide (b = j)) else f a) a b = true := by
        intro a b h
        by_cases ha : a = i
        · subst ha; simp [h]
        · simp [ha, h]
      have dn : ∀ a b, (fun a => if a = i then (fun b => f i b || decide (b = j)) else f a) a b = true → f a b = true ∨ (a = i ∧ b = j) := by
        intro a b h
        by_cases ha : a = i
        · subst ha
          simp only [if_true, Bool.or_eq_true, decide_eq_true_eq] at h
          exact h.imp_right fun h => ⟨rfl, h⟩
        · simp only [ha, if_false] at h; exact .inl h
      refine ⟨f', ?_, fun a b h => g2 a b (up a b h), ?_, ?_⟩
      · rw [It_step, ← g1]
        simp (disch := first | omega | (simp only [List.length_append, List.length_cons, List.length_nil, List.length_set, List.length_map, List.length_replicate, List.length_range, rowB_len, refs_len, put_len]; omega)) only [go_sem, ↓reduceIte, Nat.reduceEqDiff, Nat.reduceAdd, Nat.reduceMul, Nat.reduceSub, Nat.reduceLT, Nat.reduceLeDiff, Nat.reduceGT, Int.reduceLT, Int.reduceLE, Int.reduceEq, Int.reduceAdd, Int.reduceNeg, Int.reduceToNat, String.reduceEq, Bool.not_eq_true, Bool.false_eq_true, if_true, if_false, reduceCtorEq, not_true_eq_false, not_false_eq_true, decide_true, decide_false, and_self, true_or, or_true, false_or, or_false, false_and, and_false, ne_eq, Bool.or_true, Bool.true_or, Bool.or_false, Bool.false_or, if_pos, if_neg, decide_eq_true, decide_eq_false, unf b12_11.eq_1, unf b12_12.eq_1, unf b12_13.eq_1, hw, put_get hI, put_set hI, rowB_set, hb.1, hb.2]
      · intro a b h
        rcases g3 a b h with h1 | ⟨h1, h2, h3, h4⟩
        · rcases dn a b h1 with h5 | ⟨rfl, rfl⟩
          · exact .inl h5
          · exact .inr ⟨rfl, hb.1, hb.2, by omega⟩
        · subst h1
          rcases dn _ _ h3 with h5 | ⟨rfl, rfl⟩
          · exact .inr ⟨rfl, hb.1, h5, h4⟩
          · exact .inr ⟨rfl, hb.1, hb.2, h4⟩
      · intro b h1 h2 h3 h4
        by_cases hbj : b = j
        · subst hbj
          exact g2 _ _ (by simp)
        · exact g4 b (by omega) h2 (up _ _ h3) (up _ _ h4)
    · obtain ⟨f', g1, g2, g3, g4⟩ := ih (j + 1) (by omega) f
      refine ⟨f', ?_, g2, g3, ?_⟩
      · rw [It_step, ← g1]
        by_cases h1 : f i m = true
        · have h2 : f m j = false := by simpa [h1] using hb
          simp (disch := first | omega | (simp only [List.length_append, List.length_cons, List.length_nil, List.length_set, List.length_map, List.length_replicate, List.length_range, rowB_len, refs_len, put_len]; omega)) only [go_sem, ↓reduceIte, Nat.reduceEqDiff, Nat.reduceAdd, Nat.reduceMul, Nat.reduceSub, Nat.reduceLT, Nat.reduceLeDiff, Nat.reduceGT, Int.reduceLT, Int.reduceLE, Int.reduceEq, Int.reduceAdd, Int.reduceNeg, Int.reduceToNat, String.reduceEq, Bool.not_eq_true, Bool.false_eq_true, if_true, if_false, reduceCtorEq, not_true_eq_false, not_false_eq_true, decide_true, decide_false, and_self, true_or, or_true, false_or, or_false, false_and, and_false, ne_eq, Bool.or_true, Bool.true_or, Bool.or_false, Bool.false_or, if_pos, if_neg, decide_eq_true, decide_eq_false, unf b12_11.eq_1, unf b12_12.eq_1, unf b12_13.eq_1, hw, put_get hI, h1, h2]
        · have h1 : f i m = false := by simpa using h1
          simp (disch := first | omega | (simp only [List.length_append, List.length_cons, List.length_nil, List.length_set, List.length_map, List.length_replicate, List.length_range, rowB_len, refs_len, put_len]; omega)) only [go_sem, ↓reduceIte, Nat.reduceEqDiff, Nat.reduceAdd, Nat.reduceMul, Nat.reduceSub, Nat.reduceLT, Nat.reduceLeDiff, Nat.reduceGT, Int.reduceLT, Int.reduceLE, Int.reduceEq, Int.reduceAdd, Int.reduceNeg, Int.reduceToNat, String.reduceEq, Bool.not_eq_true, Bool.false_eq_true, if_true, if_false, reduceCtorEq, not_true_eq_false, not_false_eq_true, decide_true, decide_false, and_self, true_or, or_true, false_or, or_false, false_and, and_false, ne_eq, Bool.or_true, Bool.true_or, Bool.or_false, Bool.false_or, if_pos, if_neg, decide_eq_true, decide_eq_false, unf b12_11.eq_1, unf b12_12.eq_1, unf b12_13.eq_1, hw, put_get hI, h1]
      · intro b h1 h2 h3 h4
        by_cases hbj : b = j
        · subst hbj; exact absurd ⟨h3, h4⟩ hb
        · exact g4 b (by omega) h2 h3 h4

theorem loop12_9 (hn : n < 1000000) {m : Nat} (hm : m < n) : ∀ (k i : Nat), i + k = n → ∀ f : Nat → Nat → Bool,
    ∃ f', catchE (It T b12_9 [3, 4, 8, 9] none [(3, .int .i64 n), (4, .list .shared 1 (refs n id)), (8, .int .i64 m), (9, .int .i64 i)] ⟨put os id n f, none⟩) 6 =
      some (.nrm, [(3, .int .i64 n), (4, .list .shared 1 (refs n id)), (8, .int .i64 m), (9, .int .i64 n), (62, .bool false)], ⟨put os id n f', none⟩) ∧
      (∀ a b, f a b = true → f' a b = true) ∧ (∀ R : Nat → Nat → Prop, (∀ a b c, R a b → R b c → R a c) → (∀ a b, f a b = true → R a b) → ∀ a b, f' a b = true → R a b) ∧
      (∀ a b, i ≤ a → a < n → b < n → f a m = true → f m b = true → f' a b = true) := by
  intro k
  induction k with
  | zero =>
    intro i hi f
    refine ⟨f, ?_, fun _ _ h => h, fun R _ h => h, fun a b h1 h2 => absurd h1 (by omega)⟩
    have : i = n := by omega
    subst this
    rw [It_step]
    simp (disch := first | omega | (simp only [List.length_append, List.length_cons, List.length_nil, List.length_set, List.length_map, List.length_replicate, List.length_range, rowB_len, refs_len, put_len]; omega)) only [go_sem, ↓reduceIte, Nat.reduceEqDiff, Nat.reduceAdd, Nat.reduceMul, Nat.reduceSub, Nat.reduceLT, Nat.reduceLeDiff, Nat.reduceGT, Int.reduceLT, Int.reduceLE, Int.reduceEq, Int.reduceAdd, Int.reduceNeg, Int.reduceToNat, String.reduceEq, Bool.not_eq_true, Bool.false_eq_true, if_true, if_false, reduceCtorEq, not_true_eq_false, not_false_eq_true, decide_true, decide_false, and_self, true_or, or_true, false_or, or_false, false_and, and_false, ne_eq, Bool.or_true, Bool.true_or, Bool.or_false, Bool.false_or, if_pos, if_neg, decide_eq_true, decide_eq_false, unf b12_9.eq_1]
  | succ k ih =>
    intro i hi f
    have hw : IntKind.wrap .i64 ((i : Int) + 1) = ((i + 1 : Nat) : Int) := by rw [wrap_id] <;> omega
    obtain ⟨f1, g1, g2, g3, g4⟩ := loop12_11 hI hn hm (by omega : i < n) n 0 (by omega) f
    obtain ⟨f2, g5, g6, g7, g8⟩ := ih (i + 1) (by omega) f1
    refine ⟨f2, ?_, fun a b h => g6 a b (g2 a b h), ?_, ?_⟩
    · rw [It_step, ← g5]
      rw [show ((0 : Nat) : Int) = 0 from rfl] at g1
      simp (disch := first | omega | (simp only [List.length_append, List.length_cons, List.length_nil, List.length_set, List.length_map, List.length_replicate, List.length_range, rowB_len, refs_len, put_len]; omega)) only [go_sem, ↓reduceIte, Nat.reduceEqDiff, Nat.reduceAdd, Nat.reduceMul, Nat.reduceSub, Nat.reduceLT, Nat.reduceLeDiff, Nat.reduceGT, Int.reduceLT, Int.reduceLE, Int.reduceEq, Int.reduceAdd, Int.reduceNeg, Int.reduceToNat, String.reduceEq, Bool.not_eq_true, Bool.false_eq_true, if_true, if_false, reduceCtorEq, not_true_eq_false, not_false_eq_true, decide_true, decide_false, and_self, true_or, or_true, false_or, or_false, false_and, and_false, ne_eq, Bool.or_true, Bool.true_or, Bool.or_false, Bool.false_or, if_pos, if_neg, decide_eq_true, decide_eq_false, unf b12_9.eq_1, unf b12_10.eq_1, unf b12_14.eq_1, hw, g1]
    · intro R hR h
      apply g7 R hR
      intro a b hab
      rcases g3 a b hab with h1 | ⟨rfl, h1, h2, _⟩
      · exact h a b h1
      · exact hR _ _ _ (h _ _ h1) (h _ _ h2)
    · intro a b h1 h2 h3 h4 h5
      by_cases ha : a = i
      · subst ha
        exact g6 _ _ (g4 b (by omega) h3 h4 h5)
      · exact g8 a b (by omega) h2 h3 (g2 _ _ h4) (g2 _ _ h5)

/-- From one to another by way of those below m. -/
inductive Via (f : Nat → Nat → Bool) (m : Nat) : Nat → Nat → Prop
  | one {i k : Nat} : f i k = true → Via f m i k
  | cons {i j k : Nat} : f i j = true → j < m → Via f m j k → Via f m i k

omit hI in
theorem Via.snoc {f : Nat → Nat → Bool} {m i j k : Nat} (h : Via f m i j) (hj : j < m) (hk : f j k = true) : Via f m i k := by
  induction h with
  | one h1 => exact .cons h1 hj (.one hk)
  | cons h1 h2 _ ih => exact .cons h1 h2 (ih hj hk)

omit hI in
theorem Via.split {f : Nat → Nat → Bool} {m i k : Nat} (h : Via f (m + 1) i k) : Via f m i k ∨ (Via f m i m ∧ Via f m m k) := by
  induction h with
  | one h => exact .inl (.one h)
  | @cons i j k h1 h2 _ ih =>
    by_cases hj : j = m
    · subst hj
      rcases ih with h | ⟨_, h⟩
      · exact .inr ⟨.one h1, h⟩
      · exact .inr ⟨.one h1, h⟩
    · rcases ih with h | ⟨h, h'⟩
      · exact .inl (.cons h1 (by omega) h)
      · exact .inr ⟨.cons h1 (by omega) h, h'⟩

theorem loop12_7 (hn : n < 1000000) (f0 : Nat → Nat → Bool) : ∀ (k m : Nat), m + k = n → ∀ f : Nat → Nat → Bool, (∀ a b, a < n → b < n → Via f0 m a b → f a b = true) →
    ∃ f', catchE (It T b12_7 [3, 4, 8] none [(3, .int .i64 n), (4, .list .shared 1 (refs n id)), (8, .int .i64 m)] ⟨put os id n f, none⟩) 4 =
      some (.nrm, [(3, .int .i64 n), (4, .list .shared 1 (refs n id)), (8, .int .i64 n), (57, .bool false)], ⟨put os id n f', none⟩) ∧
      (∀ R : Nat → Nat → Prop, (∀ a b c, R a b → R b c → R a c) → (∀ a b, f a b = true → R a b) → ∀ a b, f' a b = true → R a b) ∧
      (∀ a b, a < n → b < n → Via f0 n a b → f' a b = true) := by
  intro k
  induction k with
  | zero =>
    intro m hm f hf
    have : m = n := by omega
    subst this
    refine ⟨f, ?_, fun R _ h => h, hf⟩
    rw [It_step]
    simp (disch := first | omega | (simp only [List.length_append, List.length_cons, List.length_nil, List.length_set, List.length_map, List.length_replicate, List.length_range, rowB_len, refs_len, put_len]; omega)) only [go_sem, ↓reduceIte, Nat.reduceEqDiff, Nat.reduceAdd, Nat.reduceMul, Nat.reduceSub, Nat.reduceLT, Nat.reduceLeDiff, Nat.reduceGT, Int.reduceLT, Int.reduceLE, Int.reduceEq, Int.reduceAdd, Int.reduceNeg, Int.reduceToNat, String.reduceEq, Bool.not_eq_true, Bool.false_eq_true, if_true, if_false, reduceCtorEq, not_true_eq_false, not_false_eq_true, decide_true, decide_false, and_self, true_or, or_true, false_or, or_false, false_and, and_false, ne_eq, Bool.or_true, Bool.true_or, Bool.or_false, Bool.false_or, if_pos, if_neg, decide_eq_true, decide_eq_false, unf b12_7.eq_1]
  | succ k ih =>
    intro m hm f hf
    have hw : IntKind.wrap .i64 ((m : Int) + 1) = ((m + 1 : Nat) : Int) := by rw [wrap_id] <;> omega
    obtain ⟨f1, g1, g2, g3, g4⟩ := loop12_9 hI hn (by omega : m < n) n 0 (by omega) f
    obtain ⟨f2, g5, g6, g7⟩ := ih (m + 1) (by omega) f1 (by
      intro a b ha hb hv
      rcases hv.split with h | ⟨h1, h2⟩
      · exact g2 a b (hf a b ha hb h)
      · exact g4 a b (by omega) ha hb (hf _ _ ha (by omega) h1) (hf _ _ (by omega) hb h2))
    refine ⟨f2, ?_, fun R hR h => g6 R hR (g3 R hR h), g7⟩
    rw [It_step, ← g5]
    rw [show ((0 : Nat) : Int) = 0 from rfl] at g1
    simp (disch := first | omega | (simp only [List.length_append, List.length_cons, List.length_nil, List.length_set, List.length_map, List.length_replicate, List.length_range, rowB_len, refs_len, put_len]; omega)) only [go_sem, ↓reduceIte, Nat.reduceEqDiff, Nat.reduceAdd, Nat.reduceMul, Nat.reduceSub, Nat.reduceLT, Nat.reduceLeDiff, Nat.reduceGT, Int.reduceLT, Int.reduceLE, Int.reduceEq, Int.reduceAdd, Int.reduceNeg, Int.reduceToNat, String.reduceEq, Bool.not_eq_true, Bool.false_eq_true, if_true, if_false, reduceCtorEq, not_true_eq_false, not_false_eq_true, decide_true, decide_false, and_self, true_or, or_true, false_or, or_false, false_and, and_false, ne_eq, Bool.or_true, Bool.true_or, Bool.or_false, Bool.false_or, if_pos, if_neg, decide_eq_true, decide_eq_false, unf b12_7.eq_1, unf b12_8.eq_1, unf b12_15.eq_1, hw, g1]
end reach

/-- What reaches what, as the reference tells. -/
theorem call12 (M : Mem) (calls : List (List Int)) (hn : calls.length < 1000000) (hr : ∀ row, row ∈ calls → row.length < 9223372036854775808) :
    ∃ (os : List AObj) (f : Nat → Nat → Bool), Am.Call T 12 [vL calls] M = some (.list .shared 1 (refs calls.length fun j => M.objs.length + 1 + j), ⟨M.objs ++ os, M.bad⟩) ∧
      os.length = 1 + calls.length ∧ (∀ i, i < calls.length → (M.objs ++ os)[M.objs.length + 1 + i]? = some (.row 0 (rowB calls.length (f i)))) ∧
      ∀ a b, a < calls.length → b < calls.length → (f a b = true ↔ Rch calls a b) := by
  generalize hcn : calls.length = n
  let os0 := M.objs ++ .tip n :: List.replicate n (.row 0 (rowB n fun _ => false))
  have hl0 : os0.length = M.objs.length + 1 + n := by simp [os0]; omega
  have hI : Ids os0 (fun j => M.objs.length + 1 + j) n := ⟨fun i j h => by simp at h; omega, fun i hi => by rw [hl0]; omega⟩
  have h0 : os0 = put os0 (fun j => M.objs.length + 1 + j) n (fun _ _ => false) := by
    apply put_ext hI
    · intro i hi
      simp only [os0]
      rw [show M.objs.length + 1 + i = M.objs.length + (1 + i) by omega, app_get_add, show 1 + i = i + 1 by omega, List.getElem?_cons_succ]
      simp [hi]
    · intro j _; rfl
  obtain ⟨f1, g1, g2⟩ := loop12_0 hI hcn (by omega) hr n 0 (by omega) (fun _ _ => false)
  obtain ⟨f2, g3, g4, g5⟩ := loop12_7 hI (by omega) f1 n 0 (by omega) f1 (by
    intro a b _ _ h
    cases h with
    | one h => exact h
    | cons _ h _ => omega)
  have hlen : (put os0 (fun j => M.objs.length + 1 + j) n f2).length = M.objs.length + 1 + n := by rw [put_len, hl0]
  have hpre : (put os0 (fun j => M.objs.length + 1 + j) n f2).take M.objs.length = M.objs := by
    apply List.ext_getElem?
    intro j
    by_cases hj : j < M.objs.length
    · rw [List.getElem?_take_of_lt hj, put_other (fun i _ => by omega)]
      simp only [os0]
      rw [List.getElem?_append_left hj]
    · rw [List.getElem?_eq_none (by simp; omega), List.getElem?_eq_none (by omega)]
  have happ : M.objs ++ (put os0 (fun j => M.objs.length + 1 + j) n f2).drop M.objs.length = put os0 (fun j => M.objs.length + 1 + j) n f2 := by
    have := List.take_append_drop M.objs.length (put os0 (fun j => M.objs.length + 1 + j) n f2)
    rw [hpre] at this
    exact this
  refine ⟨(put os0 (fun j => M.objs.length + 1 + j) n f2).drop M.objs.length, f2, ?_, ?_, ?_, ?_⟩
  · rw [happ, Call_fn (fn := f12) rfl rfl]
    rw [show ((0 : Nat) : Int) = 0 from rfl] at g1 g3
    have hc26 := call26 ⟨M.objs, none⟩ n (by omega)
    simp only at hc26
    rw [show M.objs ++ AObj.tip n :: List.replicate n (AObj.row 0 (rowB n fun _ => false)) = os0 from rfl, h0] at hc26
    simp (disch := first | omega | (simp only [List.length_append, List.length_cons, List.length_nil, List.length_set, List.length_map, List.length_replicate, List.length_range, rowB_len, refs_len, put_len]; omega)) only [go_sem, ↓reduceIte, Nat.reduceEqDiff, Nat.reduceAdd, Nat.reduceMul, Nat.reduceSub, Nat.reduceLT, Nat.reduceLeDiff, Nat.reduceGT, Int.reduceLT, Int.reduceLE, Int.reduceEq, Int.reduceAdd, Int.reduceNeg, Int.reduceToNat, String.reduceEq, Bool.not_eq_true, Bool.false_eq_true, if_true, if_false, reduceCtorEq, not_true_eq_false, not_false_eq_true, decide_true, decide_false, and_self, true_or, or_true, false_or, or_false, false_and, and_false, ne_eq, Bool.or_true, Bool.true_or, Bool.or_false, Bool.false_or, if_pos, if_neg, decide_eq_true, decide_eq_false, unf b12.eq_1, unf b12_6.eq_1, unf b12_16.eq_1, f12, hc26, g1, g3, hcn, shrink, minBad]
    cases M.bad <;> rfl
  · simp [hlen]; omega
  · intro i hi
    rw [happ, put_get hI hi]
  · intro a b ha hb
    constructor
    · apply g4 (Rch calls) (fun a b c h1 h2 => h1.trans h2)
      intro a b h
      rcases (g2 a b).1 h with h | ⟨_, _, rfl | h⟩
      · cases h
      · exact .refl _
      · exact (Rch.refl _).tail h
    · intro h
      apply g5 a b ha hb
      induction h with
      | refl => exact .one ((g2 _ _).2 (.inr ⟨by omega, ha, .inl rfl⟩))
      | @tail j k h1 h2 ih =>
        have hj : j < n := by rw [← hcn]; exact h1.lt (by omega)
        exact (ih hj).snoc hj ((g2 _ _).2 (.inr ⟨by omega, hj, .inr h2⟩))
/-! the program's reach: deep first -/
def cnt (n : Nat) (g : Nat → Bool) : Nat := ((List.range n).filter fun a => !g a).length

theorem filter_len_le {α : Type} {p q : α → Bool} (h : ∀ a, p a = true → q a = true) : ∀ l : List α, (l.filter p).length ≤ (l.filter q).length := by
  intro l
  induction l with
  | nil => simp
  | cons x xs ih =>
    simp only [List.filter_cons]
    cases hp : p x with
    | true => simp only [h x hp, if_true, List.length_cons]; omega
    | false => cases hq : q x <;> simp <;> omega

theorem filter_len_lt {α : Type} {p q : α → Bool} (h : ∀ a, p a = true → q a = true) {x : α} (h1 : p x = false) (h2 : q x = true) : ∀ l : List α, x ∈ l → (l.filter p).length < (l.filter q).length := by
  intro l
  induction l with
  | nil => simp
  | cons y xs ih =>
    intro hx
    have hle := filter_len_le h xs
    simp only [List.filter_cons]
    rcases List.mem_cons.1 hx with rfl | hx
    · simp only [h1, h2, if_true, List.length_cons, Bool.false_eq_true, if_false]; omega
    · have := ih hx
      cases hp : p y with
      | true => simp only [h y hp, if_true, List.length_cons]; omega
      | false => cases hq : q y <;> simp <;> omega

theorem cnt_mono {n : Nat} {f g : Nat → Bool} (h : ∀ a, f a = true → g a = true) : cnt n g ≤ cnt n f := by
  apply filter_len_le
  intro a ha
  cases hf : f a with
  | false => rfl
  | true => rw [h a hf] at ha; cases ha

theorem cnt_lt {n : Nat} {g : Nat → Bool} {i : Nat} (hi : i < n) (h : g i = false) : cnt n (fun b => g b || decide (b = i)) < cnt n g := by
  apply filter_len_lt (x := i)
  · intro a ha
    cases hg : g a with
    | false => rfl
    | true => simp [hg] at ha
  · simp
  · simp [h]
  · simp [hi]

/-- The memory, of whom is met. -/
abbrev memV (os : List AObj) (sr n : Nat) (g : Nat → Bool) : List AObj := os.set sr (.row 0 (rowB n g))

-- LENS rowB_len, refs_len, put_len

/-- What a visit makes of whom is met. -/
structure Met (calls : List (List Int)) (n : Nat) (from_ : Nat → Prop) (g g' : Nat → Bool) : Prop where
  up : ∀ a, g a = true → g' a = true
  new : ∀ a, g' a = true → g a = true ∨ ∃ i, from_ i ∧ i < n ∧ Rch calls i a
  all : ∀ i, from_ i → i < n → g' i = true
  shut : ∀ a b, g' a = true → g a = false → Edge calls a b → g' b = true

theorem loop49 {os : List AObj} {n ic is iv sr : Nat} {calls : List (List Int)} (hv : os[iv]? = some (.row 0 [.func 49 [] [.ptr ic 0 0, .ptr is 0 0, .ptr iv 0 0]])) (h3 : sr ≠ iv) (u : Nat) (ih : ∀ (g : Nat → Bool) (b : Option Nat) (i : Int), cnt n g ≤ u → ∃ g', Am.Call T 49 [.int .i64 i, .ptr ic 0 0, .ptr is 0 0, .ptr iv 0 0] ⟨memV os sr n g, b⟩ = some (.tuple [], ⟨memV os sr n g', b⟩) ∧ Met calls n (fun k => (k : Int) = i) g g')
    {row : List Int} (hrow : row.length < 9223372036854775808) : ∀ (rest pre : List Int), row = pre ++ rest → ∀ g : Nat → Bool, cnt n g ≤ u →
    ∃ g', catchE (It T b49_1 [3, 27, 28, 29] none [(3, .ptr iv 0 0), (27, vI row), (28, .int .i64 row.length), (29, .int .i64 pre.length)] ⟨memV os sr n g, none⟩) 0 =
      some (.nrm, [(3, .ptr iv 0 0), (27, vI row), (28, .int .i64 row.length), (29, .int .i64 row.length), (30, .bool false)], ⟨memV os sr n g', none⟩) ∧ Met calls n (fun k => (k : Int) ∈ rest) g g' := by
  intro rest
  induction rest with
  | nil =>
    intro pre hp g hg
    refine ⟨g, ?_, ⟨fun _ h => h, fun _ h => .inl h, fun _ h => by simp at h, fun a b h h' => by rw [h] at h'; cases h'⟩⟩
    simp only [List.append_nil] at hp
    subst hp
    rw [It_step]
    simp (disch := first | omega | (simp only [List.length_append, List.length_cons, List.length_nil, List.length_set, List.length_map, List.length_replicate, List.length_range, rowB_len, refs_len, put_len]; omega)) only [go_sem, ↓reduceIte, Nat.reduceEqDiff, Nat.reduceAdd, Nat.reduceMul, Nat.reduceSub, Nat.reduceLT, Nat.reduceLeDiff, Nat.reduceGT, Int.reduceLT, Int.reduceLE, Int.reduceEq, Int.reduceAdd, Int.reduceNeg, Int.reduceToNat, String.reduceEq, Bool.not_eq_true, Bool.false_eq_true, if_true, if_false, reduceCtorEq, not_true_eq_false, not_false_eq_true, decide_true, decide_false, and_self, true_or, or_true, false_or, or_false, false_and, and_false, ne_eq, Bool.or_true, Bool.true_or, Bool.or_false, Bool.false_or, if_pos, if_neg, decide_eq_true, decide_eq_false, unf b49_1.eq_1]
  | cons c rest ihr =>
    intro pre hp g hg
    have hlen : pre.length + (rest.length + 1) = row.length := by rw [hp]; simp
    have hw : IntKind.wrap .i64 ((pre.length : Int) + 1) = ((pre.length + 1 : Nat) : Int) := by rw [wrap_id] <;> omega
    have hcc : (row.map (AV.int .i64))[pre.length]? = some (.int .i64 c) := by rw [hp, List.map_append, List.map_cons, mid_get]
    have hmv : ∀ g, (memV os sr n g)[iv]? = some (.row 0 [.func 49 [] [.ptr ic 0 0, .ptr is 0 0, .ptr iv 0 0]]) := fun g => by rw [List.getElem?_set_ne h3, hv]
    obtain ⟨g1, e1, m1⟩ := ih g none c hg
    obtain ⟨g2, e2, m2⟩ := ihr (pre ++ [c]) (by rw [hp]; simp) g1 (Nat.le_trans (cnt_mono m1.up) hg)
    refine ⟨g2, ?_, ⟨fun a h => m2.up a (m1.up a h), ?_, ?_, ?_⟩⟩
    · rw [It_step, ← e2]
      simp (disch := first | omega | (simp only [List.length_append, List.length_cons, List.length_nil, List.length_set, List.length_map, List.length_replicate, List.length_range, rowB_len, refs_len, put_len]; omega)) only [go_sem, ↓reduceIte, Nat.reduceEqDiff, Nat.reduceAdd, Nat.reduceMul, Nat.reduceSub, Nat.reduceLT, Nat.reduceLeDiff, Nat.reduceGT, Int.reduceLT, Int.reduceLE, Int.reduceEq, Int.reduceAdd, Int.reduceNeg, Int.reduceToNat, String.reduceEq, Bool.not_eq_true, Bool.false_eq_true, if_true, if_false, reduceCtorEq, not_true_eq_false, not_false_eq_true, decide_true, decide_false, and_self, true_or, or_true, false_or, or_false, false_and, and_false, ne_eq, Bool.or_true, Bool.true_or, Bool.or_false, Bool.false_or, if_pos, if_neg, decide_eq_true, decide_eq_false, unf b49_1.eq_1, unf b49_2.eq_1, hcc, hw, hmv, e1]
    · intro a h
      rcases m2.new a h with h | ⟨i, h, h', h''⟩
      · rcases m1.new a h with h | ⟨i, h, h', h''⟩
        · exact .inl h
        · exact .inr ⟨i, by rw [h]; exact List.mem_cons_self, h', h''⟩
      · exact .inr ⟨i, List.mem_cons_of_mem _ h, h', h''⟩
    · intro i h h'
      rcases List.mem_cons.1 h with h | h
      · exact m2.up _ (m1.all i h h')
      · exact m2.all i h h'
    · intro a b h h' he
      cases h4 : g1 a with
      | true => exact m2.up _ (m1.shut a b h4 h' he)
      | false => exact m2.shut a b h h4 he

section visit
variable {os : List AObj} {n ic is iv sr : Nat} {calls : List (List Int)} (hcn : calls.length = n)
  (hc : os[ic]? = some (.row 0 [vL calls])) (hs : os[is]? = some (.row 0 [.ref sr 0 0 n])) (hv : os[iv]? = some (.row 0 [.func 49 [] [.ptr ic 0 0, .ptr is 0 0, .ptr iv 0 0]]))
  (hsr : sr < os.length) (h1 : sr ≠ ic) (h2 : sr ≠ is) (h3 : sr ≠ iv)
include hcn hc hs hsr h1 h2

theorem stay49 (g : Nat → Bool) (b : Option Nat) (i : Int) (hi : ∀ k : Nat, (k : Int) = i → k < n → g k = true) :
    Am.Call T 49 [.int .i64 i, .ptr ic 0 0, .ptr is 0 0, .ptr iv 0 0] ⟨memV os sr n g, b⟩ = some (.tuple [], ⟨memV os sr n g, b⟩) := by
  have hmc : ∀ g, (memV os sr n g)[ic]? = some (.row 0 [vL calls]) := fun g => by rw [List.getElem?_set_ne h1, hc]
  have hms : ∀ g, (memV os sr n g)[is]? = some (.row 0 [.ref sr 0 0 n]) := fun g => by rw [List.getElem?_set_ne h2, hs]
  have hmr : ∀ g, (memV os sr n g)[sr]? = some (.row 0 (rowB n g)) := fun g => List.getElem?_set_self hsr
  rw [Call_fn (fn := f49) rfl rfl]
  by_cases h0 : i < 0
  · simp (disch := first | omega | (simp only [List.length_append, List.length_cons, List.length_nil, List.length_set, List.length_map, List.length_replicate, List.length_range, rowB_len, refs_len, put_len]; omega)) only [go_sem, ↓reduceIte, Nat.reduceEqDiff, Nat.reduceAdd, Nat.reduceMul, Nat.reduceSub, Nat.reduceLT, Nat.reduceLeDiff, Nat.reduceGT, Int.reduceLT, Int.reduceLE, Int.reduceEq, Int.reduceAdd, Int.reduceNeg, Int.reduceToNat, String.reduceEq, Bool.not_eq_true, Bool.false_eq_true, if_true, if_false, reduceCtorEq, not_true_eq_false, not_false_eq_true, decide_true, decide_false, and_self, true_or, or_true, false_or, or_false, false_and, and_false, ne_eq, Bool.or_true, Bool.true_or, Bool.or_false, Bool.false_or, if_pos, if_neg, decide_eq_true, decide_eq_false, unf b49.eq_1, f49, hmc, hms, hmr, shrink, minBad]
    cases b <;> rfl
  · by_cases hn : i < n
    · obtain ⟨k, rfl⟩ : ∃ k : Nat, i = k := ⟨i.toNat, by omega⟩
      have hg := hi k rfl (by omega)
      simp (disch := first | omega | (simp only [List.length_append, List.length_cons, List.length_nil, List.length_set, List.length_map, List.length_replicate, List.length_range, rowB_len, refs_len, put_len]; omega)) only [go_sem, ↓reduceIte, Nat.reduceEqDiff, Nat.reduceAdd, Nat.reduceMul, Nat.reduceSub, Nat.reduceLT, Nat.reduceLeDiff, Nat.reduceGT, Int.reduceLT, Int.reduceLE, Int.reduceEq, Int.reduceAdd, Int.reduceNeg, Int.reduceToNat, String.reduceEq, Bool.not_eq_true, Bool.false_eq_true, if_true, if_false, reduceCtorEq, not_true_eq_false, not_false_eq_true, decide_true, decide_false, and_self, true_or, or_true, false_or, or_false, false_and, and_false, ne_eq, Bool.or_true, Bool.true_or, Bool.or_false, Bool.false_or, if_pos, if_neg, decide_eq_true, decide_eq_false, unf b49.eq_1, f49, hmc, hms, hmr, shrink, minBad, hcn, hg]
      cases b <;> rfl
    · simp (disch := first | omega | (simp only [List.length_append, List.length_cons, List.length_nil, List.length_set, List.length_map, List.length_replicate, List.length_range, rowB_len, refs_len, put_len]; omega)) only [go_sem, ↓reduceIte, Nat.reduceEqDiff, Nat.reduceAdd, Nat.reduceMul, Nat.reduceSub, Nat.reduceLT, Nat.reduceLeDiff, Nat.reduceGT, Int.reduceLT, Int.reduceLE, Int.reduceEq, Int.reduceAdd, Int.reduceNeg, Int.reduceToNat, String.reduceEq, Bool.not_eq_true, Bool.false_eq_true, if_true, if_false, reduceCtorEq, not_true_eq_false, not_false_eq_true, decide_true, decide_false, and_self, true_or, or_true, false_or, or_false, false_and, and_false, ne_eq, Bool.or_true, Bool.true_or, Bool.or_false, Bool.false_or, if_pos, if_neg, decide_eq_true, decide_eq_false, unf b49.eq_1, f49, hmc, hms, hmr, shrink, minBad, hcn]
      cases b <;> rfl

include hv h3
theorem call49 (hr : ∀ row, row ∈ calls → row.length < 9223372036854775808) : ∀ (u : Nat) (g : Nat → Bool) (b : Option Nat) (i : Int), cnt n g ≤ u → ∃ g', Am.Call T 49 [.int .i64 i, .ptr ic 0 0, .ptr is 0 0, .ptr iv 0 0] ⟨memV os sr n g, b⟩ = some (.tuple [], ⟨memV os sr n g', b⟩) ∧ Met calls n (fun k => (k : Int) = i) g g' := by
  intro u
  have hmc : ∀ g, (memV os sr n g)[ic]? = some (.row 0 [vL calls]) := fun g => by rw [List.getElem?_set_ne h1, hc]
  have hms : ∀ g, (memV os sr n g)[is]? = some (.row 0 [.ref sr 0 0 n]) := fun g => by rw [List.getElem?_set_ne h2, hs]
  have hmr : ∀ g, (memV os sr n g)[sr]? = some (.row 0 (rowB n g)) := fun g => List.getElem?_set_self hsr
  have hset : ∀ g g', (memV os sr n g).set sr (.row 0 (rowB n g')) = memV os sr n g' := fun g g' => by simp [memV]
  have stay : ∀ (g : Nat → Bool) (b : Option Nat) (i : Int), (∀ k : Nat, (k : Int) = i → k < n → g k = true) → ∃ g', Am.Call T 49 [.int .i64 i, .ptr ic 0 0, .ptr is 0 0, .ptr iv 0 0] ⟨memV os sr n g, b⟩ = some (.tuple [], ⟨memV os sr n g', b⟩) ∧ Met calls n (fun k => (k : Int) = i) g g' := by
    intro g b i hi
    exact ⟨g, stay49 hcn hc hs hsr h1 h2 g b i hi, ⟨fun _ h => h, fun _ h => .inl h, fun k h h' => hi k h h', fun a b h h' => by rw [h] at h'; cases h'⟩⟩
  induction u with
  | zero =>
    intro g b i hg
    apply stay
    intro k hk hkn
    cases h : g k with
    | true => rfl
    | false => have := cnt_lt hkn h; omega
  | succ u ih =>
    intro g b i hg
    by_cases hi : ∀ k : Nat, (k : Int) = i → k < n → g k = true
    · exact stay g b i hi
    · obtain ⟨k, rfl, hkn, hgk⟩ : ∃ k : Nat, (k : Int) = i ∧ k < n ∧ g k = false := by
        apply Classical.byContradiction
        intro hno
        apply hi
        intro k hk hkn
        cases h : g k with
        | true => rfl
        | false => exact absurd ⟨k, hk, hkn, h⟩ hno
      obtain ⟨row, hrow⟩ : ∃ row, calls[k]? = some row := ⟨_, List.getElem?_eq_getElem (by omega)⟩
      have hvr : (calls.map vI)[k]? = some (vI row) := by simp [hrow]
      have hlt := cnt_lt hkn hgk
      obtain ⟨g', e1, m1⟩ := loop49 (calls := calls) (ic := ic) (is := is) hv h3 u ih (hr row (List.mem_of_getElem? hrow)) row [] rfl (fun b => g b || decide (b = k)) (by omega)
      refine ⟨g', ?_, ⟨fun a h => m1.up a (by simp [h]), ?_, ?_, ?_⟩⟩
      · rw [Call_fn (fn := f49) rfl rfl]
        simp only [List.length_nil] at e1
        rw [show ((0 : Nat) : Int) = 0 from rfl] at e1
        simp (disch := first | omega | (simp only [List.length_append, List.length_cons, List.length_nil, List.length_set, List.length_map, List.length_replicate, List.length_range, rowB_len, refs_len, put_len]; omega)) only [go_sem, ↓reduceIte, Nat.reduceEqDiff, Nat.reduceAdd, Nat.reduceMul, Nat.reduceSub, Nat.reduceLT, Nat.reduceLeDiff, Nat.reduceGT, Int.reduceLT, Int.reduceLE, Int.reduceEq, Int.reduceAdd, Int.reduceNeg, Int.reduceToNat, String.reduceEq, Bool.not_eq_true, Bool.false_eq_true, if_true, if_false, reduceCtorEq, not_true_eq_false, not_false_eq_true, decide_true, decide_false, and_self, true_or, or_true, false_or, or_false, false_and, and_false, ne_eq, Bool.or_true, Bool.true_or, Bool.or_false, Bool.false_or, if_pos, if_neg, decide_eq_true, decide_eq_false, unf b49.eq_1, unf b49_0.eq_1, f49, hmc, hms, hmr, hset, rowB_set, shrink, minBad, hcn, hgk, hvr, e1]
        cases b <;> rfl
      · intro a h
        rcases m1.new a h with h | ⟨i, h, h', h''⟩
        · simp only [Bool.or_eq_true, decide_eq_true_eq] at h
          rcases h with h | rfl
          · exact .inl h
          · exact .inr ⟨a, rfl, hkn, .refl _⟩
        · exact .inr ⟨k, rfl, hkn, ((Rch.refl k).tail ⟨row, hrow, h, by omega⟩).trans h''⟩
      · intro i h h'
        have : i = k := by omega
        subst this
        exact m1.up _ (by simp)
      · intro a b h h' he
        by_cases hak : a = k
        · subst hak
          obtain ⟨r, e2, e3, e4⟩ := he
          rw [hrow] at e2; cases e2
          exact m1.all b e3 (by omega)
        · exact m1.shut a b h (by simp [h', hak]) he
end visit
theorem loop22 {n0 n : Nat} {calls : List (List Int)} (hcn : calls.length = n) (hn : n < 1000000) (hr : ∀ row, row ∈ calls → row.length < 9223372036854775808) : ∀ (k i : Nat), i + k = n → ∀ (os : List AObj) (b : Option Nat) (cells : List AV),
    os.length = n0 + 2 + 3 * i → os[n0]? = some (.row 0 [vL calls]) → os[n0 + 1]? = some (.row 0 cells) → cells.length = n → (∀ x, b = some x → n0 ≤ x) →
    (∀ j, j < i → cells[j]? = some (.ref (n0 + 2 + 3 * j) 0 0 n) ∧ ∃ f : Nat → Bool, os[n0 + 2 + 3 * j]? = some (.row 0 (rowB n f)) ∧ ∀ a, a < n → (f a = true ↔ Rch calls j a)) →
    ∃ (os' : List AObj) (b' : Option Nat) (cells' : List AV), catchE (It T b22_0 [1, 3, 11, 12] none [(1, .ptr n0 0 0), (3, .ref (n0 + 1) 0 0 n), (11, .int .i64 n), (12, .int .i64 i)] ⟨os, b⟩) 0 =
      some (.nrm, [(1, .ptr n0 0 0), (3, .ref (n0 + 1) 0 0 n), (11, .int .i64 n), (12, .int .i64 n), (13, .bool false)], ⟨os', b'⟩) ∧
      os'.length = n0 + 2 + 3 * n ∧ os'[n0 + 1]? = some (.row 0 cells') ∧ cells'.length = n ∧ (∀ x, b' = some x → n0 ≤ x) ∧ (∀ j, j < n0 → os'[j]? = os[j]?) ∧
      ∀ j, j < n → cells'[j]? = some (.ref (n0 + 2 + 3 * j) 0 0 n) ∧ ∃ f : Nat → Bool, os'[n0 + 2 + 3 * j]? = some (.row 0 (rowB n f)) ∧ ∀ a, a < n → (f a = true ↔ Rch calls j a) := by
  intro k
  induction k with
  | zero =>
    intro i hi os b cells hl hA hB hcl hb hrows
    have : i = n := by omega
    subst this
    refine ⟨os, b, cells, ?_, hl, hB, hcl, hb, fun _ _ => rfl, hrows⟩
    rw [It_step]
    simp (disch := first | omega | (simp only [List.length_append, List.length_cons, List.length_nil, List.length_set, List.length_map, List.length_replicate, List.length_range, rowB_len, refs_len, put_len]; omega)) only [go_sem, ↓reduceIte, Nat.reduceEqDiff, Nat.reduceAdd, Nat.reduceMul, Nat.reduceSub, Nat.reduceLT, Nat.reduceLeDiff, Nat.reduceGT, Int.reduceLT, Int.reduceLE, Int.reduceEq, Int.reduceAdd, Int.reduceNeg, Int.reduceToNat, String.reduceEq, Bool.not_eq_true, Bool.false_eq_true, if_true, if_false, reduceCtorEq, not_true_eq_false, not_false_eq_true, decide_true, decide_false, and_self, true_or, or_true, false_or, or_false, false_and, and_false, ne_eq, Bool.or_true, Bool.true_or, Bool.or_false, Bool.false_or, if_pos, if_neg, decide_eq_true, decide_eq_false, unf b22_0.eq_1]
  | succ k ih =>
    intro i hi os b cells hl hA hB hcl hb hrows
    have hw : IntKind.wrap .i64 ((i : Int) + 1) = ((i + 1 : Nat) : Int) := by rw [wrap_id] <;> omega
    have hA' : ∀ l, (os ++ l)[n0]? = some (.row 0 [vL calls]) := fun l => by rw [List.getElem?_append_left (by omega), hA]
    have hB' : ∀ l, (os ++ l)[n0 + 1]? = some (.row 0 cells) := fun l => by rw [List.getElem?_append_left (by omega), hB]
    let vis : AV := .func 49 [] [.ptr n0 0 0, .ptr (os.length + 1) 0 0, .ptr (os.length + 2) 0 0]
    let osn : (Nat → Bool) → List AObj := fun g => os ++ [.row 0 (rowB n g), .row 0 [.ref os.length 0 0 n], .row 0 [vis]]
    have hmem : ∀ g, memV (osn fun _ => false) os.length n g = osn g := by
      intro g
      simp only [memV, osn]
      rw [app_set]; rfl
    obtain ⟨g, e1, m1⟩ := call49 (os := osn fun _ => false) (ic := n0) (is := os.length + 1) (iv := os.length + 2) (sr := os.length) hcn (hA' _)
      (by simp only [osn]; rw [app_get_add]; rfl) (by simp only [osn]; rw [app_get_add]; rfl) (by simp [osn]) (by omega) (by omega) (by omega) hr _ (fun _ => false) b i (Nat.le_refl _)
    rw [hmem, hmem] at e1
    simp only [osn, vis] at e1
    have hg : ∀ a, a < n → (g a = true ↔ Rch calls i a) := by
      intro a ha
      constructor
      · intro h
        rcases m1.new a h with h | ⟨i', h, _, h'⟩
        · cases h
        · have : i' = i := by omega
          subst this; exact h'
      · intro h
        induction h with
        | refl => exact m1.all i rfl ha
        | @tail j k h1 h2 ihh =>
          have hj : j < n := by rw [← hcn]; exact h1.lt (by omega)
          exact m1.shut j k (ihh hj) rfl h2
    have hset : ∀ (l : List AObj) (o : AObj), (os ++ l).set (n0 + 1) o = os.set (n0 + 1) o ++ l := fun l o => by rw [List.set_append_left _ _ (by omega)]
    obtain ⟨os', b', cells', q1, q2, q3, q4, q5, q6, q7⟩ := ih (i + 1) (by omega) (os.set (n0 + 1) (.row 0 (cells.set i (.ref os.length 0 0 n))) ++ [.row 0 (rowB n g), .row 0 [.ref os.length 0 0 n], .row 0 [vis]])
      (badP (AV.underAll (n0 + 1 + 1) (cells.set i (.ref os.length 0 0 n))) (n0 + 1) b) (cells.set i (.ref os.length 0 0 n)) (by simp; omega)
      (by rw [List.getElem?_append_left (by simp; omega), List.getElem?_set_ne (by omega), hA])
      (by rw [List.getElem?_append_left (by simp; omega), List.getElem?_set_self (by omega)])
      (by simp [hcl])
      (by
        intro x hx
        unfold badP at hx
        split at hx
        · exact hb x hx
        · cases b with
          | none => simp only [minBad, Option.some.injEq] at hx; omega
          | some y => simp only [minBad, Option.some.injEq] at hx; have := hb y rfl; omega)
      (by
        intro j hj
        by_cases hji : j = i
        · subst hji
          refine ⟨by rw [List.getElem?_set_self (by omega), hl], g, ?_, hg⟩
          rw [List.getElem?_append_right (by simp; omega)]
          simp only [List.length_set]
          rw [show n0 + 2 + 3 * j - os.length = 0 by omega]; rfl
        · obtain ⟨r1, f, r2, r3⟩ := hrows j (by omega)
          refine ⟨by rw [List.getElem?_set_ne (by omega), r1], f, ?_, r3⟩
          rw [List.getElem?_append_left (by simp; omega), List.getElem?_set_ne (by omega), r2])
    refine ⟨os', b', cells', ?_, q2, q3, q4, q5, ?_, q7⟩
    · rw [It_step, ← q1]
      simp (disch := first | omega | (simp only [List.length_append, List.length_cons, List.length_nil, List.length_set, List.length_map, List.length_replicate, List.length_range, rowB_len, refs_len, put_len]; omega)) only [go_sem, ↓reduceIte, Nat.reduceEqDiff, Nat.reduceAdd, Nat.reduceMul, Nat.reduceSub, Nat.reduceLT, Nat.reduceLeDiff, Nat.reduceGT, Int.reduceLT, Int.reduceLE, Int.reduceEq, Int.reduceAdd, Int.reduceNeg, Int.reduceToNat, String.reduceEq, Bool.not_eq_true, Bool.false_eq_true, if_true, if_false, reduceCtorEq, not_true_eq_false, not_false_eq_true, decide_true, decide_false, and_self, true_or, or_true, false_or, or_false, false_and, and_false, ne_eq, Bool.or_true, Bool.true_or, Bool.or_false, Bool.false_or, if_pos, if_neg, decide_eq_true, decide_eq_false, unf b22_0.eq_1, unf b22_1.eq_1, hw, hA, hB, hA', hB', hcn, mkSlice_row1, rowB_false, e1, hset, vis]
    · intro j hj
      rw [q6 j hj, List.getElem?_append_left (by simp; omega), List.getElem?_set_ne (by omega)]

/-- What reaches what, as the program tells. -/
theorem call22 (os0 : List AObj) (calls : List (List Int)) (hn : calls.length < 1000000) (hr : ∀ row, row ∈ calls → row.length < 9223372036854775808) :
    ∃ (os : List AObj) (b : Option Nat) (cells : List AV), Am.Call T 22 [vL calls] ⟨os0, none⟩ = some (.ref (os0.length + 1) 0 0 calls.length, ⟨os0 ++ os, b⟩) ∧
      os.length = 2 + 3 * calls.length ∧ (os0 ++ os)[os0.length + 1]? = some (.row 0 cells) ∧ cells.length = calls.length ∧ (∀ x, b = some x → os0.length ≤ x) ∧
      ∀ j, j < calls.length → cells[j]? = some (.ref (os0.length + 2 + 3 * j) 0 0 calls.length) ∧ ∃ f : Nat → Bool, (os0 ++ os)[os0.length + 2 + 3 * j]? = some (.row 0 (rowB calls.length f)) ∧ ∀ a, a < calls.length → (f a = true ↔ Rch calls j a) := by
  generalize hcn : calls.length = n
  obtain ⟨os', b', cells', q1, q2, q3, q4, q5, q6, q7⟩ := loop22 (n0 := os0.length) hcn (by omega) hr n 0 (by omega) (os0 ++ [.row 0 [vL calls], .row 0 (List.replicate n (.list .full 0 []))]) none (List.replicate n (.list .full 0 []))
    (by simp) (by rw [app_get]; rfl) (by rw [app_get_add]; rfl) (by simp) (fun x h => by cases h) (fun j hj => by omega)
  have hpre : os'.take os0.length = os0 := by
    apply List.ext_getElem?
    intro j
    by_cases hj : j < os0.length
    · rw [List.getElem?_take_of_lt hj, q6 j hj, List.getElem?_append_left hj]
    · rw [List.getElem?_eq_none (by simp; omega), List.getElem?_eq_none (by omega)]
  have happ : os0 ++ os'.drop os0.length = os' := by
    have := List.take_append_drop os0.length os'
    rw [hpre] at this
    exact this
  refine ⟨os'.drop os0.length, b', cells', ?_, by simp [q2]; omega, by rw [happ]; exact q3, q4, q5, by rw [happ]; exact q7⟩
  rw [happ, Call_fn (fn := f22) rfl rfl]
  rw [show ((0 : Nat) : Int) = 0 from rfl] at q1
  have hbn : minBad none b' = b' := by cases b' <;> rfl
  simp (disch := first | omega | (simp only [List.length_append, List.length_cons, List.length_nil, List.length_set, List.length_map, List.length_replicate, List.length_range, rowB_len, refs_len, put_len]; omega)) only [go_sem, ↓reduceIte, Nat.reduceEqDiff, Nat.reduceAdd, Nat.reduceMul, Nat.reduceSub, Nat.reduceLT, Nat.reduceLeDiff, Nat.reduceGT, Int.reduceLT, Int.reduceLE, Int.reduceEq, Int.reduceAdd, Int.reduceNeg, Int.reduceToNat, String.reduceEq, Bool.not_eq_true, Bool.false_eq_true, if_true, if_false, reduceCtorEq, not_true_eq_false, not_false_eq_true, decide_true, decide_false, and_self, true_or, or_true, false_or, or_false, false_and, and_false, ne_eq, Bool.or_true, Bool.true_or, Bool.or_false, Bool.false_or, if_pos, if_neg, decide_eq_true, decide_eq_false, unf b22.eq_1, unf b22_2.eq_1, f22, hcn, under_vI, mkSlice_row1, q1, shrink, hbn]
/-! components, in plain words -/
def ready (n : Nat) (R : Nat → Nat → Bool) (d : Nat → Bool) (i : Nat) : Bool := (List.range n).all fun k => !(R i k && !d k && !R k i)
def free (n : Nat) (R : Nat → Nat → Bool) (d : Nat → Bool) (i : Nat) : Bool := !d i && ready n R d i
def cls (n : Nat) (R : Nat → Nat → Bool) (i : Nat) : List Nat := (List.range n).filter fun k => R i k && R k i
def mark (R : Nat → Nat → Bool) (d : Nat → Bool) (i : Nat) : Nat → Bool := fun k => d k || (R i k && R k i)
def next (n : Nat) (R : Nat → Nat → Bool) (d : Nat → Bool) : Option Nat := (List.range n).find? (free n R d)
def run (n : Nat) (R : Nat → Nat → Bool) : Nat → (Nat → Bool) → List (List Nat)
  | 0, _ => []
  | m + 1, d => match next n R d with
    | none => []
    | some i => cls n R i :: run n R m (mark R d i)

open Classical in
noncomputable def Rb (calls : List (List Int)) (i k : Nat) : Bool := decide (Rch calls i k)

theorem Rb_iff {calls : List (List Int)} {i k : Nat} : Rb calls i k = true ↔ Rch calls i k := by simp [Rb]

theorem rowB_congr {n : Nat} {f g : Nat → Bool} (h : ∀ a, a < n → (f a = true ↔ g a = true)) : rowB n f = rowB n g := by
  apply List.map_congr_left
  intro a ha
  have := h a (List.mem_range.1 ha)
  cases hf : f a <;> cases hg : g a <;> simp_all

structure Pre (n : Nat) (R : Nat → Nat → Bool) : Prop where
  refl : ∀ i, i < n → R i i = true
  trans : ∀ i j k, i < n → j < n → k < n → R i j = true → R j k = true → R i k = true

theorem pre_Rb {calls : List (List Int)} : Pre calls.length (Rb calls) :=
  ⟨fun i _ => Rb_iff.2 (.refl i), fun i j k _ _ _ h1 h2 => Rb_iff.2 ((Rb_iff.1 h1).trans (Rb_iff.1 h2))⟩

theorem ready_iff {n : Nat} {R : Nat → Nat → Bool} {d : Nat → Bool} {i : Nat} : ready n R d i = true ↔ ∀ k, k < n → R i k = true → d k = true ∨ R k i = true := by
  simp only [ready, List.all_eq_true, List.mem_range]
  constructor
  · intro h k hk hr
    have := h k hk
    cases h1 : d k <;> cases h2 : R k i <;> simp_all
  · intro h k hk
    cases h0 : R i k with
    | false => rfl
    | true => rcases h k hk h0 with h1 | h1 <;> simp [h1]

theorem free_ex {n : Nat} {R : Nat → Nat → Bool} (hR : Pre n R) {d : Nat → Bool} : ∀ (u i : Nat), cnt n (fun k => !R i k) ≤ u → i < n → d i = false → ∃ j, j < n ∧ free n R d j = true := by
  intro u
  induction u with
  | zero =>
    intro i hu hi _
    have h1 : cnt n (fun b => (!R i b) || decide (b = i)) < cnt n (fun k => !R i k) := cnt_lt hi (by simp [hR.refl i hi])
    omega
  | succ u ih =>
    intro i hu hi hd
    cases hr : ready n R d i with
    | true => exact ⟨i, hi, by simp [free, hd, hr]⟩
    | false =>
      have hno : ¬ ∀ k, k < n → R i k = true → d k = true ∨ R k i = true := fun h => by rw [ready_iff.2 h] at hr; cases hr
      obtain ⟨k, hk, h1, h2, h3⟩ : ∃ k, k < n ∧ R i k = true ∧ d k = false ∧ R k i = false := by
        apply Classical.byContradiction
        intro hc
        apply hno
        intro k hk h1
        cases h2 : d k with
        | true => exact .inl rfl
        | false =>
          cases h3 : R k i with
          | true => exact .inr rfl
          | false => exact absurd ⟨k, hk, h1, h2, h3⟩ hc
      apply ih k _ hk h2
      have hlt : cnt n (fun a => !R k a) < cnt n (fun a => !R i a) := by
        unfold cnt
        have : ∀ l : List Nat, (∀ x ∈ l, x < n) → (l.filter fun a => !!R k a) = l.filter (fun a => decide (a < n) && R k a) := by
          intro l hl
          apply List.filter_congr
          intro x hx
          simp [hl x hx]
        rw [this _ (fun x hx => List.mem_range.1 hx)]
        apply filter_len_lt (x := i)
        · intro a ha
          simp only [Bool.and_eq_true, decide_eq_true_eq] at ha
          simp [hR.trans i k a hi hk ha.1 h1 ha.2]
        · simp [h3]
        · simp [hR.refl i hi]
        · simp [hi]
      omega

theorem cnt_mark {n : Nat} {R : Nat → Nat → Bool} (hR : Pre n R) {d : Nat → Bool} {i : Nat} (hi : i < n) (hd : d i = false) : cnt n (mark R d i) < cnt n d := by
  refine Nat.lt_of_le_of_lt (cnt_mono (f := fun b => d b || decide (b = i)) ?_) (cnt_lt hi hd)
  intro a ha
  simp only [Bool.or_eq_true, decide_eq_true_eq] at ha
  rcases ha with h | rfl
  · simp [mark, h]
  · simp [mark, hR.refl a hi]

theorem next_some {n : Nat} {R : Nat → Nat → Bool} {d : Nat → Bool} {i : Nat} (h : next n R d = some i) : i < n ∧ d i = false ∧ ready n R d i = true ∧ ∀ j, j < i → free n R d j = false := by
  unfold next at h
  rw [List.find?_range_eq_some] at h
  obtain ⟨h1, h2, h3⟩ := h
  simp only [free, Bool.and_eq_true, Bool.not_eq_true'] at h1
  exact ⟨by simpa using h2, h1.1, h1.2, fun j hj => by simpa using h3 j hj⟩
/-! the program's components -/
/-- A table that a cell names, and a row that another names. -/
structure Tab (os : List AObj) (rc dc dr n : Nat) (R : Nat → Nat → Bool) (d : Nat → Bool) (id : Nat → Nat) (tr : Nat) (cells : List AV) : Prop where
  rc : os[rc]? = some (.row 0 [.ref tr 0 0 n])
  tr : os[tr]? = some (.row 0 cells)
  cl : cells.length = n
  cs : ∀ j, j < n → cells[j]? = some (.ref (id j) 0 0 n)
  rows : ∀ j, j < n → os[id j]? = some (.row 0 (rowB n (R j)))
  dc : os[dc]? = some (.row 0 [.ref dr 0 0 n])
  dr : os[dr]? = some (.row 0 (rowB n d))

theorem Tab.put {os : List AObj} {rc dc dr n : Nat} {R : Nat → Nat → Bool} {d d' : Nat → Bool} {id : Nat → Nat} {tr : Nat} {cells : List AV} (h : Tab os rc dc dr n R d id tr cells)
    (h1 : dr ≠ rc) (h2 : dr ≠ tr) (h3 : dr ≠ dc) (h4 : ∀ j, j < n → dr ≠ id j) : Tab (os.set dr (.row 0 (rowB n d'))) rc dc dr n R d' id tr cells :=
  ⟨by rw [List.getElem?_set_ne h1, h.rc], by rw [List.getElem?_set_ne h2, h.tr], h.cl, h.cs, fun j hj => by rw [List.getElem?_set_ne (h4 j hj), h.rows j hj], by rw [List.getElem?_set_ne h3, h.dc], List.getElem?_set_self (List.getElem?_eq_some_iff.1 h.dr).1⟩

theorem Tab.tip {os : List AObj} {rc dc dr n : Nat} {R : Nat → Nat → Bool} {d : Nat → Bool} {id : Nat → Nat} {tr : Nat} {cells : List AV} (h : Tab os rc dc dr n R d id tr cells)
    {t m : Nat} (ht : t = os.length ∨ ∃ k, os[t]? = some (.tip k)) : Tab (os.set t (.tip m)) rc dc dr n R d id tr cells := by
  have go : ∀ {j : Nat} {v : Nat} {cs : List AV}, os[j]? = some (.row v cs) → (os.set t (.tip m))[j]? = some (.row v cs) := by
    intro j v cs hj
    have hne : t ≠ j := by
      rintro rfl
      rcases ht with h | ⟨k, h⟩
      · rw [List.getElem?_eq_none (by omega)] at hj; cases hj
      · rw [h] at hj; cases hj
    rw [List.getElem?_set_ne hne, hj]
  exact ⟨go h.rc, go h.tr, h.cl, h.cs, fun j hj => go (h.rows j hj), go h.dc, go h.dr⟩

theorem Tab.app {os : List AObj} {rc dc dr n : Nat} {R : Nat → Nat → Bool} {d : Nat → Bool} {id : Nat → Nat} {tr : Nat} {cells : List AV} (h : Tab os rc dc dr n R d id tr cells)
    (l : List AObj) : Tab (os ++ l) rc dc dr n R d id tr cells := by
  have go : ∀ {j : Nat} {o : AObj}, os[j]? = some o → (os ++ l)[j]? = some o := by
    intro j o hj
    rw [List.getElem?_append_left (List.getElem?_eq_some_iff.1 hj).1, hj]
  exact ⟨go h.rc, go h.tr, h.cl, h.cs, fun j hj => go (h.rows j hj), go h.dc, go h.dr⟩

theorem loop23 {os : List AObj} {rc dc dr n : Nat} {R : Nat → Nat → Bool} {d : Nat → Bool} {id : Nat → Nat} {tr : Nat} {cells : List AV} (h : Tab os rc dc dr n R d id tr cells) (hn : n < 1000000) {i : Nat} (hi : i < n) : ∀ (k j : Nat), j + k = n →
    thenE (catchE (It T b23_0 [0, 1, 2, 10, 11, 12] none [(0, .int .i64 i), (1, .ptr rc 0 0), (2, .ptr dc 0 0), (10, .ref (id i) 0 0 n), (11, .int .i64 n), (12, .int .i64 j)] ⟨os, none⟩) 0) (Ev T b23_3) =
      some (.ret, [(4, .bool ((List.range' j k).all fun k => !(R i k && !d k && !R k i)))], ⟨os, none⟩) := by
  have hcl := h.cl
  intro k
  induction k with
  | zero =>
    intro j hj
    have : j = n := by omega
    subst this
    rw [It_step]
    simp (disch := first | omega | (simp only [List.length_append, List.length_cons, List.length_nil, List.length_set, List.length_map, List.length_replicate, List.length_range, rowB_len, refs_len, put_len]; omega)) only [go_sem, ↓reduceIte, Nat.reduceEqDiff, Nat.reduceAdd, Nat.reduceMul, Nat.reduceSub, Nat.reduceLT, Nat.reduceLeDiff, Nat.reduceGT, Int.reduceLT, Int.reduceLE, Int.reduceEq, Int.reduceAdd, Int.reduceNeg, Int.reduceToNat, String.reduceEq, Bool.not_eq_true, Bool.false_eq_true, if_true, if_false, reduceCtorEq, not_true_eq_false, not_false_eq_true, decide_true, decide_false, and_self, true_or, or_true, false_or, or_false, false_and, and_false, ne_eq, Bool.or_true, Bool.true_or, Bool.or_false, Bool.false_or, if_pos, if_neg, decide_eq_true, decide_eq_false, unf b23_0.eq_1, unf b23_3.eq_1, List.range'_zero, List.all_nil]
  | succ k ih =>
    intro j hj
    have hw : IntKind.wrap .i64 ((j : Int) + 1) = ((j + 1 : Nat) : Int) := by rw [wrap_id] <;> omega
    have h2 := ih (j + 1) (by omega)
    rw [It_step, List.range'_succ, List.all_cons]
    cases h0 : R i j with
    | false =>
      simp (disch := first | omega | (simp only [List.length_append, List.length_cons, List.length_nil, List.length_set, List.length_map, List.length_replicate, List.length_range, rowB_len, refs_len, put_len]; omega)) only [go_sem, ↓reduceIte, Nat.reduceEqDiff, Nat.reduceAdd, Nat.reduceMul, Nat.reduceSub, Nat.reduceLT, Nat.reduceLeDiff, Nat.reduceGT, Int.reduceLT, Int.reduceLE, Int.reduceEq, Int.reduceAdd, Int.reduceNeg, Int.reduceToNat, String.reduceEq, Bool.not_eq_true, Bool.false_eq_true, if_true, if_false, reduceCtorEq, not_true_eq_false, not_false_eq_true, decide_true, decide_false, and_self, true_or, or_true, false_or, or_false, false_and, and_false, ne_eq, Bool.or_true, Bool.true_or, Bool.or_false, Bool.false_or, if_pos, if_neg, decide_eq_true, decide_eq_false, unf b23_0.eq_1, unf b23_1.eq_1, unf b23_2.eq_1, hw, h.rc, h.tr, h.cs, h.rows, h.dc, h.dr, h0]
      exact h2
    | true =>
      cases h1 : d j with
      | true =>
        simp (disch := first | omega | (simp only [List.length_append, List.length_cons, List.length_nil, List.length_set, List.length_map, List.length_replicate, List.length_range, rowB_len, refs_len, put_len]; omega)) only [go_sem, ↓reduceIte, Nat.reduceEqDiff, Nat.reduceAdd, Nat.reduceMul, Nat.reduceSub, Nat.reduceLT, Nat.reduceLeDiff, Nat.reduceGT, Int.reduceLT, Int.reduceLE, Int.reduceEq, Int.reduceAdd, Int.reduceNeg, Int.reduceToNat, String.reduceEq, Bool.not_eq_true, Bool.false_eq_true, if_true, if_false, reduceCtorEq, not_true_eq_false, not_false_eq_true, decide_true, decide_false, and_self, true_or, or_true, false_or, or_false, false_and, and_false, ne_eq, Bool.or_true, Bool.true_or, Bool.or_false, Bool.false_or, if_pos, if_neg, decide_eq_true, decide_eq_false, unf b23_0.eq_1, unf b23_1.eq_1, unf b23_2.eq_1, hw, h.rc, h.tr, h.cs, h.rows, h.dc, h.dr, h0, h1]
        exact h2
      | false =>
        cases h3 : R j i with
        | true =>
          simp (disch := first | omega | (simp only [List.length_append, List.length_cons, List.length_nil, List.length_set, List.length_map, List.length_replicate, List.length_range, rowB_len, refs_len, put_len]; omega)) only [go_sem, ↓reduceIte, Nat.reduceEqDiff, Nat.reduceAdd, Nat.reduceMul, Nat.reduceSub, Nat.reduceLT, Nat.reduceLeDiff, Nat.reduceGT, Int.reduceLT, Int.reduceLE, Int.reduceEq, Int.reduceAdd, Int.reduceNeg, Int.reduceToNat, String.reduceEq, Bool.not_eq_true, Bool.false_eq_true, if_true, if_false, reduceCtorEq, not_true_eq_false, not_false_eq_true, decide_true, decide_false, and_self, true_or, or_true, false_or, or_false, false_and, and_false, ne_eq, Bool.or_true, Bool.true_or, Bool.or_false, Bool.false_or, if_pos, if_neg, decide_eq_true, decide_eq_false, unf b23_0.eq_1, unf b23_1.eq_1, unf b23_2.eq_1, hw, h.rc, h.tr, h.cs, h.rows, h.dc, h.dr, h0, h1, h3]
          exact h2
        | false =>
          simp (disch := first | omega | (simp only [List.length_append, List.length_cons, List.length_nil, List.length_set, List.length_map, List.length_replicate, List.length_range, rowB_len, refs_len, put_len]; omega)) only [go_sem, ↓reduceIte, Nat.reduceEqDiff, Nat.reduceAdd, Nat.reduceMul, Nat.reduceSub, Nat.reduceLT, Nat.reduceLeDiff, Nat.reduceGT, Int.reduceLT, Int.reduceLE, Int.reduceEq, Int.reduceAdd, Int.reduceNeg, Int.reduceToNat, String.reduceEq, Bool.not_eq_true, Bool.false_eq_true, if_true, if_false, reduceCtorEq, not_true_eq_false, not_false_eq_true, decide_true, decide_false, and_self, true_or, or_true, false_or, or_false, false_and, and_false, ne_eq, Bool.or_true, Bool.true_or, Bool.or_false, Bool.false_or, if_pos, if_neg, decide_eq_true, decide_eq_false, unf b23_0.eq_1, unf b23_1.eq_1, unf b23_2.eq_1, hw, h.rc, h.tr, h.cs, h.rows, h.dc, h.dr, h0, h1, h3]

theorem call23 {os : List AObj} {rc dc dr n : Nat} {R : Nat → Nat → Bool} {d : Nat → Bool} {id : Nat → Nat} {tr : Nat} {cells : List AV} (h : Tab os rc dc dr n R d id tr cells) (hn : n < 1000000) {i : Nat} (hi : i < n) (b : Option Nat) :
    Am.Call T 23 [.int .i64 i, .ptr rc 0 0, .ptr dc 0 0] ⟨os, b⟩ = some (.bool (ready n R d i), ⟨os, b⟩) := by
  have hcl := h.cl
  have h1 := loop23 h hn hi n 0 (by omega)
  rw [show ((0 : Nat) : Int) = 0 from rfl] at h1
  rw [Call_fn (fn := f23) rfl rfl]
  simp (disch := first | omega | (simp only [List.length_append, List.length_cons, List.length_nil, List.length_set, List.length_map, List.length_replicate, List.length_range, rowB_len, refs_len, put_len]; omega)) only [go_sem, ↓reduceIte, Nat.reduceEqDiff, Nat.reduceAdd, Nat.reduceMul, Nat.reduceSub, Nat.reduceLT, Nat.reduceLeDiff, Nat.reduceGT, Int.reduceLT, Int.reduceLE, Int.reduceEq, Int.reduceAdd, Int.reduceNeg, Int.reduceToNat, String.reduceEq, Bool.not_eq_true, Bool.false_eq_true, if_true, if_false, reduceCtorEq, not_true_eq_false, not_false_eq_true, decide_true, decide_false, and_self, true_or, or_true, false_or, or_false, false_and, and_false, ne_eq, Bool.or_true, Bool.true_or, Bool.or_false, Bool.false_or, if_pos, if_neg, decide_eq_true, decide_eq_false, unf b23.eq_1, f23, h.rc, h.tr, h.cs, h1, ready, List.range_eq_range']

/-! the first that is not marked -/
def firstF (n : Nat) (d : Nat → Bool) : Option Nat := (List.range n).find? fun k => !d k

theorem loop24 {os : List AObj} {dr n : Nat} {d : Nat → Bool} (h : os[dr]? = some (.row 0 (rowB n d))) (hn : n < 1000000) : ∀ (k j : Nat), j + k = n →
    thenE (catchE (It T b24_0 [0, 1, 7, 8] none [(0, .ref dr 0 0 n), (1, .func 25 [] []), (7, .int .i64 n), (8, .int .i64 j)] ⟨os, none⟩) 0) (Ev T b24_3) =
      some (.ret, [(4, .int .i64 (match (List.range' j k).find? fun k => !d k with | some i => (i : Int) | none => -1))], ⟨os, none⟩) := by
  intro k
  induction k with
  | zero =>
    intro j hj
    have : j = n := by omega
    subst this
    rw [It_step]
    simp (disch := first | omega | (simp only [List.length_append, List.length_cons, List.length_nil, List.length_set, List.length_map, List.length_replicate, List.length_range, rowB_len, refs_len, put_len]; omega)) only [go_sem, ↓reduceIte, Nat.reduceEqDiff, Nat.reduceAdd, Nat.reduceMul, Nat.reduceSub, Nat.reduceLT, Nat.reduceLeDiff, Nat.reduceGT, Int.reduceLT, Int.reduceLE, Int.reduceEq, Int.reduceAdd, Int.reduceNeg, Int.reduceToNat, String.reduceEq, Bool.not_eq_true, Bool.false_eq_true, if_true, if_false, reduceCtorEq, not_true_eq_false, not_false_eq_true, decide_true, decide_false, and_self, true_or, or_true, false_or, or_false, false_and, and_false, ne_eq, Bool.or_true, Bool.true_or, Bool.or_false, Bool.false_or, if_pos, if_neg, decide_eq_true, decide_eq_false, unf b24_0.eq_1, unf b24_3.eq_1, List.range'_zero, List.find?_nil]
  | succ k ih =>
    intro j hj
    have hw : IntKind.wrap .i64 ((j : Int) + 1) = ((j + 1 : Nat) : Int) := by rw [wrap_id] <;> omega
    have h2 := ih (j + 1) (by omega)
    rw [It_step, List.range'_succ, List.find?_cons]
    cases h0 : d j with
    | false =>
      simp (disch := first | omega | (simp only [List.length_append, List.length_cons, List.length_nil, List.length_set, List.length_map, List.length_replicate, List.length_range, rowB_len, refs_len, put_len]; omega)) only [go_sem, ↓reduceIte, Nat.reduceEqDiff, Nat.reduceAdd, Nat.reduceMul, Nat.reduceSub, Nat.reduceLT, Nat.reduceLeDiff, Nat.reduceGT, Int.reduceLT, Int.reduceLE, Int.reduceEq, Int.reduceAdd, Int.reduceNeg, Int.reduceToNat, String.reduceEq, Bool.not_eq_true, Bool.false_eq_true, if_true, if_false, reduceCtorEq, not_true_eq_false, not_false_eq_true, decide_true, decide_false, and_self, true_or, or_true, false_or, or_false, false_and, and_false, ne_eq, Bool.or_true, Bool.true_or, Bool.or_false, Bool.false_or, if_pos, if_neg, decide_eq_true, decide_eq_false, unf b24_0.eq_1, unf b24_1.eq_1, unf b24_2.eq_1, hw, h, h0, call25]
    | true =>
      simp (disch := first | omega | (simp only [List.length_append, List.length_cons, List.length_nil, List.length_set, List.length_map, List.length_replicate, List.length_range, rowB_len, refs_len, put_len]; omega)) only [go_sem, ↓reduceIte, Nat.reduceEqDiff, Nat.reduceAdd, Nat.reduceMul, Nat.reduceSub, Nat.reduceLT, Nat.reduceLeDiff, Nat.reduceGT, Int.reduceLT, Int.reduceLE, Int.reduceEq, Int.reduceAdd, Int.reduceNeg, Int.reduceToNat, String.reduceEq, Bool.not_eq_true, Bool.false_eq_true, if_true, if_false, reduceCtorEq, not_true_eq_false, not_false_eq_true, decide_true, decide_false, and_self, true_or, or_true, false_or, or_false, false_and, and_false, ne_eq, Bool.or_true, Bool.true_or, Bool.or_false, Bool.false_or, if_pos, if_neg, decide_eq_true, decide_eq_false, unf b24_0.eq_1, unf b24_1.eq_1, unf b24_2.eq_1, hw, h, h0, call25]
      exact h2

theorem call24 {os : List AObj} {dr n : Nat} {d : Nat → Bool} (h : os[dr]? = some (.row 0 (rowB n d))) (hn : n < 1000000) (b : Option Nat) :
    Am.Call T 24 [.ref dr 0 0 n, .func 25 [] []] ⟨os, b⟩ = some (.int .i64 (match firstF n d with | some i => (i : Int) | none => -1), ⟨os, b⟩) := by
  have h1 := loop24 h hn n 0 (by omega)
  rw [show ((0 : Nat) : Int) = 0 from rfl] at h1
  rw [Call_fn (fn := f24) rfl rfl]
  simp (disch := first | omega | (simp only [List.length_append, List.length_cons, List.length_nil, List.length_set, List.length_map, List.length_replicate, List.length_range, rowB_len, refs_len, put_len]; omega)) only [go_sem, ↓reduceIte, Nat.reduceEqDiff, Nat.reduceAdd, Nat.reduceMul, Nat.reduceSub, Nat.reduceLT, Nat.reduceLeDiff, Nat.reduceGT, Int.reduceLT, Int.reduceLE, Int.reduceEq, Int.reduceAdd, Int.reduceNeg, Int.reduceToNat, String.reduceEq, Bool.not_eq_true, Bool.false_eq_true, if_true, if_false, reduceCtorEq, not_true_eq_false, not_false_eq_true, decide_true, decide_false, and_self, true_or, or_true, false_or, or_false, false_and, and_false, ne_eq, Bool.or_true, Bool.true_or, Bool.or_false, Bool.false_or, if_pos, if_neg, decide_eq_true, decide_eq_false, unf b24.eq_1, f24, h1, firstF, List.range_eq_range']
abbrev vN (k : Nat) : AV := .int .i64 (k : Int)
abbrev vNs (l : List Nat) : AV := .list .shared 1 (l.map vN)

theorem under_vN {m : Nat} {l : List Nat} : AV.underAll m (l.map vN) = true := underAll_map fun _ _ => rfl
theorem under_vNs {m : Nat} {l : List (List Nat)} : AV.underAll m (l.map vNs) = true := underAll_map fun _ _ => by simp only [vNs, under_shared, under_vN]

theorem Tab.congr {os : List AObj} {rc dc dr n : Nat} {R : Nat → Nat → Bool} {d d' : Nat → Bool} {id : Nat → Nat} {tr : Nat} {cells : List AV} (h : Tab os rc dc dr n R d id tr cells) (hd : ∀ a, a < n → d a = d' a) : Tab os rc dc dr n R d' id tr cells :=
  ⟨h.rc, h.tr, h.cl, h.cs, h.rows, h.dc, by rw [h.dr, rowB_congr fun a ha => by rw [hd a ha]]⟩

theorem loop9_2 {os : List AObj} {rc dc dr n : Nat} {R : Nat → Nat → Bool} {d : Nat → Bool} {id : Nat → Nat} {tr : Nat} {cells : List AV} (h : Tab os rc dc dr n R d id tr cells) (hn : n < 1000000) {b : Option Nat} {c out : AV} {j : Nat} (hj : next n R d = some j) : ∀ (k i : Nat), i + k = j →
    catchE (It T b9_2 [0, 3, 4, 5, 6, 7] none [(0, c), (3, .ptr rc 0 0), (4, .ptr dc 0 0), (5, .func 23 [] [.ptr rc 0 0, .ptr dc 0 0]), (6, out), (7, .int .i64 i)] ⟨os, b⟩) 2 =
      some (.nrm, [(0, c), (3, .ptr rc 0 0), (4, .ptr dc 0 0), (5, .func 23 [] [.ptr rc 0 0, .ptr dc 0 0]), (6, out), (7, .int .i64 j), (30, .bool false)], ⟨os, b⟩) := by
  have hcl := h.cl
  obtain ⟨j1, j2, j3, j4⟩ := next_some hj
  intro k
  induction k with
  | zero =>
    intro i hi
    have : i = j := by omega
    subst this
    rw [It_step]
    simp (disch := first | omega | (simp only [List.length_append, List.length_cons, List.length_nil, List.length_set, List.length_map, List.length_replicate, List.length_range, rowB_len, refs_len, put_len]; omega)) only [go_sem, ↓reduceIte, Nat.reduceEqDiff, Nat.reduceAdd, Nat.reduceMul, Nat.reduceSub, Nat.reduceLT, Nat.reduceLeDiff, Nat.reduceGT, Int.reduceLT, Int.reduceLE, Int.reduceEq, Int.reduceAdd, Int.reduceNeg, Int.reduceToNat, String.reduceEq, Bool.not_eq_true, Bool.false_eq_true, if_true, if_false, reduceCtorEq, not_true_eq_false, not_false_eq_true, decide_true, decide_false, and_self, true_or, or_true, false_or, or_false, false_and, and_false, ne_eq, Bool.or_true, Bool.true_or, Bool.or_false, Bool.false_or, if_pos, if_neg, decide_eq_true, decide_eq_false, unf b9_2.eq_1, h.dc, h.dr, j2, call23 h hn j1, j3]
  | succ k ih =>
    intro i hi
    have hin : i < n := by omega
    have hw : IntKind.wrap .i64 ((i : Int) + 1) = ((i + 1 : Nat) : Int) := by rw [wrap_id] <;> omega
    have h2 := ih (i + 1) (by omega)
    have hf := j4 i (by omega)
    rw [It_step]
    cases h0 : d i with
    | true =>
      simp (disch := first | omega | (simp only [List.length_append, List.length_cons, List.length_nil, List.length_set, List.length_map, List.length_replicate, List.length_range, rowB_len, refs_len, put_len]; omega)) only [go_sem, ↓reduceIte, Nat.reduceEqDiff, Nat.reduceAdd, Nat.reduceMul, Nat.reduceSub, Nat.reduceLT, Nat.reduceLeDiff, Nat.reduceGT, Int.reduceLT, Int.reduceLE, Int.reduceEq, Int.reduceAdd, Int.reduceNeg, Int.reduceToNat, String.reduceEq, Bool.not_eq_true, Bool.false_eq_true, if_true, if_false, reduceCtorEq, not_true_eq_false, not_false_eq_true, decide_true, decide_false, and_self, true_or, or_true, false_or, or_false, false_and, and_false, ne_eq, Bool.or_true, Bool.true_or, Bool.or_false, Bool.false_or, if_pos, if_neg, decide_eq_true, decide_eq_false, unf b9_2.eq_1, unf b9_3.eq_1, h.dc, h.dr, h0, hw]
      exact h2
    | false =>
      have hr : ready n R d i = false := by simpa [free, h0] using hf
      simp (disch := first | omega | (simp only [List.length_append, List.length_cons, List.length_nil, List.length_set, List.length_map, List.length_replicate, List.length_range, rowB_len, refs_len, put_len]; omega)) only [go_sem, ↓reduceIte, Nat.reduceEqDiff, Nat.reduceAdd, Nat.reduceMul, Nat.reduceSub, Nat.reduceLT, Nat.reduceLeDiff, Nat.reduceGT, Int.reduceLT, Int.reduceLE, Int.reduceEq, Int.reduceAdd, Int.reduceNeg, Int.reduceToNat, String.reduceEq, Bool.not_eq_true, Bool.false_eq_true, if_true, if_false, reduceCtorEq, not_true_eq_false, not_false_eq_true, decide_true, decide_false, and_self, true_or, or_true, false_or, or_false, false_and, and_false, ne_eq, Bool.or_true, Bool.true_or, Bool.or_false, Bool.false_or, if_pos, if_neg, decide_eq_true, decide_eq_false, unf b9_2.eq_1, unf b9_3.eq_1, h.dc, h.dr, h0, hw, call23 h hn hin, hr]
      exact h2

theorem loop9_5 {rc dc dr n : Nat} {R : Nat → Nat → Bool} {id : Nat → Nat} {tr : Nat} {cells : List AV} (hn : n < 1000000) {b : Option Nat} {c fn out : AV} {i t : Nat} (hi : i < n) (hcl : cells.length = n)
    (h1 : dr ≠ rc) (h2 : dr ≠ tr) (h3 : dr ≠ dc) (h4 : ∀ j, j < n → dr ≠ id j) (h5 : dr ≠ t) : ∀ (k j : Nat), j + k = n → ∀ (os : List AObj) (d : Nat → Bool) (comp : List Nat), Tab os rc dc dr n R d id tr cells → os[t]? = some (.tip comp.length) → comp.length ≤ j →
    ∃ os', catchE (It T b9_5 [0, 3, 4, 5, 6, 7, 8, 34, 35] none [(0, c), (3, .ptr rc 0 0), (4, .ptr dc 0 0), (5, fn), (6, out), (7, .int .i64 i), (8, .list (.own t) 1 (comp.map vN)), (34, .int .i64 n), (35, .int .i64 j)] ⟨os, b⟩) 4 =
      some (.nrm, [(0, c), (3, .ptr rc 0 0), (4, .ptr dc 0 0), (5, fn), (6, out), (7, .int .i64 i), (8, .list (.own t) 1 ((comp ++ (List.range' j k).filter fun k => R i k && R k i).map vN)), (34, .int .i64 n), (35, .int .i64 n), (36, .bool false)], ⟨os', b⟩) ∧
      Tab os' rc dc dr n R (fun a => d a || (decide (j ≤ a) && (R i a && R a i))) id tr cells ∧ os'.length = os.length ∧ ∀ x, x ≠ dr → x ≠ t → os'[x]? = os[x]? := by
  intro k
  induction k with
  | zero =>
    intro j hj os d comp h ht _
    have : j = n := by omega
    subst this
    refine ⟨os, ?_, h.congr fun a ha => by simp [show ¬ j ≤ a by omega], rfl, fun _ _ _ => rfl⟩
    rw [It_step]
    simp (disch := first | omega | (simp only [List.length_append, List.length_cons, List.length_nil, List.length_set, List.length_map, List.length_replicate, List.length_range, rowB_len, refs_len, put_len]; omega)) only [go_sem, ↓reduceIte, Nat.reduceEqDiff, Nat.reduceAdd, Nat.reduceMul, Nat.reduceSub, Nat.reduceLT, Nat.reduceLeDiff, Nat.reduceGT, Int.reduceLT, Int.reduceLE, Int.reduceEq, Int.reduceAdd, Int.reduceNeg, Int.reduceToNat, String.reduceEq, Bool.not_eq_true, Bool.false_eq_true, if_true, if_false, reduceCtorEq, not_true_eq_false, not_false_eq_true, decide_true, decide_false, and_self, true_or, or_true, false_or, or_false, false_and, and_false, ne_eq, Bool.or_true, Bool.true_or, Bool.or_false, Bool.false_or, if_pos, if_neg, decide_eq_true, decide_eq_false, unf b9_5.eq_1, List.range'_zero, List.filter_nil]
  | succ k ih =>
    intro j hj os d comp h ht hcj
    have hw : IntKind.wrap .i64 ((j : Int) + 1) = ((j + 1 : Nat) : Int) := by rw [wrap_id] <;> omega
    rw [List.range'_succ, List.filter_cons]
    have skip : R i j = false ∨ R j i = false → ∀ a, a < n → (fun a => d a || (decide (j + 1 ≤ a) && (R i a && R a i))) a = (fun a => d a || (decide (j ≤ a) && (R i a && R a i))) a := by
      intro hs a _
      by_cases haj : a = j
      · subst haj; rcases hs with hs | hs <;> simp [hs]
      · simp only [show (j + 1 ≤ a) = (j ≤ a) from propext ⟨fun _ => by omega, fun _ => by omega⟩]
    cases h0 : R i j with
    | false =>
      obtain ⟨os', e1, e2, e3, e4⟩ := ih (j + 1) (by omega) os d comp h ht (by omega)
      refine ⟨os', ?_, e2.congr (skip (.inl h0)), e3, e4⟩
      rw [It_step]
      rw [List.map_append] at e1
      simp (disch := first | omega | (simp only [List.length_append, List.length_cons, List.length_nil, List.length_set, List.length_map, List.length_replicate, List.length_range, rowB_len, refs_len, put_len]; omega)) only [go_sem, ↓reduceIte, Nat.reduceEqDiff, Nat.reduceAdd, Nat.reduceMul, Nat.reduceSub, Nat.reduceLT, Nat.reduceLeDiff, Nat.reduceGT, Int.reduceLT, Int.reduceLE, Int.reduceEq, Int.reduceAdd, Int.reduceNeg, Int.reduceToNat, String.reduceEq, Bool.not_eq_true, Bool.false_eq_true, if_true, if_false, reduceCtorEq, not_true_eq_false, not_false_eq_true, decide_true, decide_false, and_self, true_or, or_true, false_or, or_false, false_and, and_false, ne_eq, Bool.or_true, Bool.true_or, Bool.or_false, Bool.false_or, if_pos, if_neg, decide_eq_true, decide_eq_false, unf b9_5.eq_1, unf b9_6.eq_1, unf b9_7.eq_1, hw, h.rc, h.tr, h.cs, h.rows, h0]
      exact e1
    | true =>
      cases h6 : R j i with
      | false =>
        obtain ⟨os', e1, e2, e3, e4⟩ := ih (j + 1) (by omega) os d comp h ht (by omega)
        refine ⟨os', ?_, e2.congr (skip (.inr h6)), e3, e4⟩
        rw [It_step]
        rw [List.map_append] at e1
        simp (disch := first | omega | (simp only [List.length_append, List.length_cons, List.length_nil, List.length_set, List.length_map, List.length_replicate, List.length_range, rowB_len, refs_len, put_len]; omega)) only [go_sem, ↓reduceIte, Nat.reduceEqDiff, Nat.reduceAdd, Nat.reduceMul, Nat.reduceSub, Nat.reduceLT, Nat.reduceLeDiff, Nat.reduceGT, Int.reduceLT, Int.reduceLE, Int.reduceEq, Int.reduceAdd, Int.reduceNeg, Int.reduceToNat, String.reduceEq, Bool.not_eq_true, Bool.false_eq_true, if_true, if_false, reduceCtorEq, not_true_eq_false, not_false_eq_true, decide_true, decide_false, and_self, true_or, or_true, false_or, or_false, false_and, and_false, ne_eq, Bool.or_true, Bool.true_or, Bool.or_false, Bool.false_or, if_pos, if_neg, decide_eq_true, decide_eq_false, unf b9_5.eq_1, unf b9_6.eq_1, unf b9_7.eq_1, hw, h.rc, h.tr, h.cs, h.rows, h0, h6]
        exact e1
      | true =>
        have htl : t < os.length := (List.getElem?_eq_some_iff.1 ht).1
        have hdl : dr < os.length := (List.getElem?_eq_some_iff.1 h.dr).1
        have hdc' : (os.set t (.tip (comp.length + 1)))[dc]? = some (.row 0 [.ref dr 0 0 n]) := (h.tip (.inr ⟨_, ht⟩)).dc
        have hdr' : (os.set t (.tip (comp.length + 1)))[dr]? = some (.row 0 (rowB n d)) := (h.tip (.inr ⟨_, ht⟩)).dr
        obtain ⟨os', e1, e2, e3, e4⟩ := ih (j + 1) (by omega) ((os.set t (.tip (comp.length + 1))).set dr (.row 0 (rowB n fun k => d k || decide (k = j)))) (fun k => d k || decide (k = j)) (comp ++ [j])
          ((h.tip (.inr ⟨_, ht⟩)).put h1 h2 h3 h4) (by rw [List.getElem?_set_ne h5, List.getElem?_set_self htl]; simp) (by simp; omega)
        refine ⟨os', ?_, e2.congr ?_, by rw [e3]; simp, ?_⟩
        · rw [It_step]
          simp only [List.map_append, List.map_cons, List.map_nil, List.append_assoc, List.cons_append, List.nil_append] at e1
          simp (disch := first | omega | (simp only [List.length_append, List.length_cons, List.length_nil, List.length_set, List.length_map, List.length_replicate, List.length_range, rowB_len, refs_len, put_len]; omega)) only [go_sem, ↓reduceIte, Nat.reduceEqDiff, Nat.reduceAdd, Nat.reduceMul, Nat.reduceSub, Nat.reduceLT, Nat.reduceLeDiff, Nat.reduceGT, Int.reduceLT, Int.reduceLE, Int.reduceEq, Int.reduceAdd, Int.reduceNeg, Int.reduceToNat, String.reduceEq, Bool.not_eq_true, Bool.false_eq_true, if_true, if_false, reduceCtorEq, not_true_eq_false, not_false_eq_true, decide_true, decide_false, and_self, true_or, or_true, false_or, or_false, false_and, and_false, ne_eq, Bool.or_true, Bool.true_or, Bool.or_false, Bool.false_or, if_pos, if_neg, decide_eq_true, decide_eq_false, unf b9_5.eq_1, unf b9_6.eq_1, unf b9_7.eq_1, hw, h.rc, h.tr, h.cs, h.rows, h0, h6, ht, hdc', hdr', rowB_set]
          exact e1
        · intro a ha
          by_cases haj : a = j
          · subst haj; simp [h0, h6]
          · simp only [haj, decide_false, Bool.or_false, show (j + 1 ≤ a) = (j ≤ a) from propext ⟨fun _ => by omega, fun _ => by omega⟩]
        · intro x hx hx'
          rw [e4 x hx hx', List.getElem?_set_ne (fun e => hx e.symm), List.getElem?_set_ne (fun e => hx' e.symm)]
theorem firstF_none {n : Nat} {d : Nat → Bool} : firstF n d = none ↔ ∀ a, a < n → d a = true := by
  simp [firstF]

theorem firstF_some {n : Nat} {d : Nat → Bool} {i : Nat} (h : firstF n d = some i) : i < n ∧ d i = false ∧ ∀ j, j < i → d j = true := by
  unfold firstF at h
  rw [List.find?_range_eq_some] at h
  obtain ⟨h1, h2, h3⟩ := h
  exact ⟨by simpa using h2, by simpa using h1, fun j hj => by simpa using h3 j hj⟩

theorem next_none {n : Nat} {R : Nat → Nat → Bool} {d : Nat → Bool} (h : ∀ a, a < n → d a = true) : next n R d = none := by
  unfold next
  rw [List.find?_eq_none]
  intro a ha
  simp [free, h a (List.mem_range.1 ha)]

theorem next_ex {n : Nat} {R : Nat → Nat → Bool} (hR : Pre n R) {d : Nat → Bool} {i : Nat} (hi : i < n) (hd : d i = false) : ∃ j, next n R d = some j := by
  obtain ⟨j, hj, hf⟩ := free_ex hR _ i (Nat.le_refl _) hi hd
  cases h : next n R d with
  | some k => exact ⟨k, rfl⟩
  | none =>
    unfold next at h
    rw [List.find?_eq_none] at h
    exact absurd hf (h j (List.mem_range.2 hj))

theorem ready_congr {n : Nat} {R : Nat → Nat → Bool} {d d' : Nat → Bool} (h : ∀ a, a < n → d a = d' a) {i : Nat} : ready n R d i = ready n R d' i := by
  unfold ready
  apply Bool.eq_iff_iff.2
  rw [List.all_eq_true, List.all_eq_true]
  constructor <;> intro h1 k hk <;> have := h1 k hk <;> simpa [h k (List.mem_range.1 hk)] using this

theorem next_congr {n : Nat} {R : Nat → Nat → Bool} {d d' : Nat → Bool} (h : ∀ a, a < n → d a = d' a) : next n R d = next n R d' := by
  unfold next
  have : ∀ l : List Nat, (∀ x ∈ l, x < n) → l.find? (free n R d) = l.find? (free n R d') := by
    intro l
    induction l with
    | nil => intro _; rfl
    | cons x xs ih =>
      intro hl
      rw [List.find?_cons, List.find?_cons, ih fun y hy => hl y (List.mem_cons_of_mem _ hy)]
      simp only [free, h x (hl x List.mem_cons_self), ready_congr h]
  exact this _ fun x hx => List.mem_range.1 hx

theorem run_congr {n : Nat} {R : Nat → Nat → Bool} : ∀ (m : Nat) {d d' : Nat → Bool}, (∀ a, a < n → d a = d' a) → run n R m d = run n R m d' := by
  intro m
  induction m with
  | zero => intro _ _ _; rfl
  | succ m ih =>
    intro d d' h
    simp only [run]
    rw [next_congr h]
    cases next n R d' with
    | none => rfl
    | some i =>
      simp only
      rw [ih (d := mark R d i) (d' := mark R d' i) fun a ha => by simp [mark, h a ha]]

theorem loop9_0 {rc dc dr n : Nat} {R : Nat → Nat → Bool} (hR : Pre n R) {id : Nat → Nat} {tr : Nat} {cells : List AV} (hn : n < 1000000) {b : Option Nat} {c : List (List Int)} {ot n0 : Nat} (hcn : c.length = n) (hcl : cells.length = n)
    (h1 : dr ≠ rc) (h2 : dr ≠ tr) (h3 : dr ≠ dc) (h4 : ∀ j, j < n → dr ≠ id j) (h5 : dr ≠ ot) (h6 : n0 ≤ dr) (h7 : n0 ≤ ot) : ∀ (m : Nat) (os : List AObj) (d : Nat → Bool) (out : List (List Nat)), cnt n d ≤ m → out.length + m < 1000000000 → Tab os rc dc dr n R d id tr cells → os[ot]? = some (.tip out.length) →
    ∃ os', catchE (It T b9_0 [0, 3, 4, 5, 6] none [(0, vL c), (3, .ptr rc 0 0), (4, .ptr dc 0 0), (5, .func 23 [] [.ptr rc 0 0, .ptr dc 0 0]), (6, .list (.own ot) 1 (out.map vNs))] ⟨os, b⟩) 0 =
      some (.ret, [(2, .list (.own ot) 1 ((out ++ run n R m d).map vNs))], ⟨os', b⟩) ∧ ∀ x, x < n0 → os'[x]? = os[x]? := by
  intro m
  have fin : ∀ (m : Nat) (os : List AObj) (d : Nat → Bool) (out : List (List Nat)), firstF n d = none → Tab os rc dc dr n R d id tr cells →
      catchE (It T b9_0 [0, 3, 4, 5, 6] none [(0, vL c), (3, .ptr rc 0 0), (4, .ptr dc 0 0), (5, .func 23 [] [.ptr rc 0 0, .ptr dc 0 0]), (6, .list (.own ot) 1 (out.map vNs))] ⟨os, b⟩) 0 =
      some (.ret, [(2, .list (.own ot) 1 ((out ++ run n R m d).map vNs))], ⟨os, b⟩) := by
    intro m os d out hf h
    have hrun : run n R m d = [] := by
      cases m with
      | zero => rfl
      | succ m => simp only [run]; rw [next_none (firstF_none.1 hf)]
    rw [It_step, hrun, List.append_nil]
    simp (disch := first | omega | (simp only [List.length_append, List.length_cons, List.length_nil, List.length_set, List.length_map, List.length_replicate, List.length_range, rowB_len, refs_len, put_len]; omega)) only [go_sem, ↓reduceIte, Nat.reduceEqDiff, Nat.reduceAdd, Nat.reduceMul, Nat.reduceSub, Nat.reduceLT, Nat.reduceLeDiff, Nat.reduceGT, Int.reduceLT, Int.reduceLE, Int.reduceEq, Int.reduceAdd, Int.reduceNeg, Int.reduceToNat, String.reduceEq, Bool.not_eq_true, Bool.false_eq_true, if_true, if_false, reduceCtorEq, not_true_eq_false, not_false_eq_true, decide_true, decide_false, and_self, true_or, or_true, false_or, or_false, false_and, and_false, ne_eq, Bool.or_true, Bool.true_or, Bool.or_false, Bool.false_or, if_pos, if_neg, decide_eq_true, decide_eq_false, unf b9_0.eq_1, h.dc, call24 h.dr hn, hf]
  induction m with
  | zero =>
    intro os d out hm _ h ht
    refine ⟨os, fin 0 os d out ?_ h, fun _ _ => rfl⟩
    cases hf : firstF n d with
    | none => rfl
    | some i =>
      obtain ⟨q1, q2, _⟩ := firstF_some hf
      have := cnt_lt q1 q2
      omega
  | succ m ih =>
    intro os d out hm ho h ht
    cases hf : firstF n d with
    | none => exact ⟨os, fin (m + 1) os d out hf h, fun _ _ => rfl⟩
    | some i =>
      obtain ⟨q1, q2, q3⟩ := firstF_some hf
      obtain ⟨j, hj⟩ := next_ex hR q1 q2
      obtain ⟨j1, j2, j3, j4⟩ := next_some hj
      have hij : i ≤ j := by
        apply Classical.byContradiction
        intro hlt
        have := q3 j (by omega)
        rw [this] at j2; cases j2
      have hlen : os.length ≠ dr := by
        have := (List.getElem?_eq_some_iff.1 h.dr).1
        omega
      have hotl : ot < os.length := (List.getElem?_eq_some_iff.1 ht).1
      obtain ⟨os1, e1, e2, e3, e4⟩ := loop9_5 (b := b) (c := vL c) (fn := .func 23 [] [.ptr rc 0 0, .ptr dc 0 0]) (out := .list (.own ot) 1 (out.map vNs)) (t := os.length) hn j1 hcl h1 h2 h3 h4 (by omega) n 0 (by omega)
        (os ++ [.tip 0]) d [] (h.app _) (by rw [app_get]; rfl) (Nat.le_refl _)
      have hto : os1[ot]? = some (.tip out.length) := by
        rw [e4 ot (by omega) (by omega), List.getElem?_append_left hotl, ht]
      have hmark : ∀ a, a < n → (fun a => d a || (decide (0 ≤ a) && (R j a && R a j))) a = mark R d j a := by
        intro a _; simp [mark]
      obtain ⟨os2, g1, g2⟩ := ih (os1.set ot (.tip (out.length + 1))) (mark R d j) (out ++ [cls n R j]) (by have := cnt_mark hR j1 j2; omega) (by simp; omega)
        ((e2.congr hmark).tip (.inr ⟨_, hto⟩)) (by rw [List.getElem?_set_self (by rw [e3]; simp; omega)]; simp)
      refine ⟨os2, ?_, ?_⟩
      · rw [It_step]
        simp only [run, hj]
        simp only [List.map_append, List.map_cons, List.map_nil, List.append_assoc, List.cons_append, List.nil_append] at g1 e1 ⊢
        rw [show ((0 : Nat) : Int) = 0 from rfl, ← List.range_eq_range'] at e1
        have l2 := loop9_2 (b := b) (c := vL c) (out := .list (.own ot) 1 (out.map vNs)) h hn hj (j - i) i (by omega)
        have ho2 : out.length + 1 < 1000000001 := by omega
        simp (disch := first | omega | (simp only [List.length_append, List.length_cons, List.length_nil, List.length_set, List.length_map, List.length_replicate, List.length_range, rowB_len, refs_len, put_len]; omega)) only [go_sem, ↓reduceIte, Nat.reduceEqDiff, Nat.reduceAdd, Nat.reduceMul, Nat.reduceSub, Nat.reduceLT, Nat.reduceLeDiff, Nat.reduceGT, Int.reduceLT, Int.reduceLE, Int.reduceEq, Int.reduceAdd, Int.reduceNeg, Int.reduceToNat, String.reduceEq, Bool.not_eq_true, Bool.false_eq_true, if_true, if_false, reduceCtorEq, not_true_eq_false, not_false_eq_true, decide_true, decide_false, and_self, true_or, or_true, false_or, or_false, false_and, and_false, ne_eq, Bool.or_true, Bool.true_or, Bool.or_false, Bool.false_or, if_pos, if_neg, decide_eq_true, decide_eq_false, unf b9_0.eq_1, unf b9_1.eq_1, unf b9_4.eq_1, unf b9_8.eq_1, h.dc, call24 h.dr hn, hf, l2, hcn, e1, hto, under_vN]
        exact g1
      · intro x hx
        rw [g2 x hx, List.getElem?_set_ne (by omega), e4 x (by omega) (by omega), List.getElem?_append_left (by omega)]

/-- The program's components. -/
theorem call9 (os0 : List AObj) (calls : List (List Int)) (hn : calls.length < 1000000) (hr : ∀ row, row ∈ calls → row.length < 9223372036854775808) (b0 : Option Nat) :
    Am.Call T 9 [vL calls] ⟨os0, b0⟩ = some (.list .shared 1 ((run calls.length (Rb calls) calls.length fun _ => false).map vNs), ⟨os0, b0⟩) := by
  obtain ⟨os, b, cells, q1, q2, q3, q4, q5, q6⟩ := call22 os0 calls hn hr
  have hlen : (os0 ++ os).length = os0.length + 2 + 3 * calls.length := by simp; omega
  generalize hos : os0 ++ os = os1 at *
  let os2 := os1 ++ [.row 0 [.ref (os0.length + 1) 0 0 calls.length], .row 0 (rowB calls.length fun _ => false), .row 0 [.ref (os1.length + 1) 0 0 calls.length], .tip 0]
  have ht : Tab os2 os1.length (os1.length + 2) (os1.length + 1) calls.length (Rb calls) (fun _ => false) (fun j => os0.length + 2 + 3 * j) (os0.length + 1) cells := by
    refine ⟨?_, ?_, q4, fun j hj => (q6 j hj).1, ?_, ?_, ?_⟩
    · simp only [os2]; rw [app_get]; rfl
    · simp only [os2]; rw [List.getElem?_append_left (by omega)]; exact q3
    · intro j hj
      obtain ⟨_, f, r1, r2⟩ := q6 j hj
      simp only [os2]
      rw [List.getElem?_append_left (by omega), r1, rowB_congr fun a ha => (r2 a ha).trans Rb_iff.symm]
    · simp only [os2]; rw [app_get_add]; rfl
    · simp only [os2]; rw [app_get_add]; rfl
  have hcnt : cnt calls.length (fun _ => false) ≤ calls.length := by
    unfold cnt
    refine Nat.le_trans (List.length_filter_le _ _) (by simp)
  obtain ⟨os3, g1, g2⟩ := loop9_0 (b := b) (c := calls) (ot := os1.length + 3) (n0 := os0.length) pre_Rb hn rfl q4 (by omega) (by omega) (by omega) (fun j hj => by omega) (by omega) (by omega) (by omega) calls.length os2 (fun _ => false) [] hcnt (by simp; omega) ht
    (by simp only [os2]; rw [app_get_add]; rfl)
  have hpre : os3.take os0.length = os0 := by
    apply List.ext_getElem?
    intro j
    by_cases hj : j < os0.length
    · rw [List.getElem?_take_of_lt hj, g2 j hj]
      simp only [os2]
      rw [List.getElem?_append_left (by omega), ← hos, List.getElem?_append_left hj]
    · rw [List.getElem?_eq_none (by simp; omega), List.getElem?_eq_none (by omega)]
  have hbad : badOk os0.length b = true := by
    cases b with
    | none => rfl
    | some x => exact badOk_pos (q5 x rfl)
  rw [Call_fn (fn := f9) rfl rfl]
  simp only [List.map_nil, List.nil_append, os2] at g1
  simp (disch := first | omega | (simp only [List.length_append, List.length_cons, List.length_nil, List.length_set, List.length_map, List.length_replicate, List.length_range, rowB_len, refs_len, put_len]; omega)) only [go_sem, ↓reduceIte, Nat.reduceEqDiff, Nat.reduceAdd, Nat.reduceMul, Nat.reduceSub, Nat.reduceLT, Nat.reduceLeDiff, Nat.reduceGT, Int.reduceLT, Int.reduceLE, Int.reduceEq, Int.reduceAdd, Int.reduceNeg, Int.reduceToNat, String.reduceEq, Bool.not_eq_true, Bool.false_eq_true, if_true, if_false, reduceCtorEq, not_true_eq_false, not_false_eq_true, decide_true, decide_false, and_self, true_or, or_true, false_or, or_false, false_and, and_false, ne_eq, Bool.or_true, Bool.true_or, Bool.or_false, Bool.false_or, if_pos, if_neg, decide_eq_true, decide_eq_false, unf b9.eq_1, f9, q1, hos, rowB_false, mkSlice_row1, g1, hbad, hpre, under_vNs]
/-! the reference's components -/
structure Tb (os : List AObj) (dr n : Nat) (R : Nat → Nat → Bool) (d : Nat → Bool) (id : Nat → Nat) : Prop where
  rows : ∀ j, j < n → os[id j]? = some (.row 0 (rowB n (R j)))
  dr : os[dr]? = some (.row 0 (rowB n d))

theorem Tb.put {os : List AObj} {dr n : Nat} {R : Nat → Nat → Bool} {d d' : Nat → Bool} {id : Nat → Nat} (h : Tb os dr n R d id)
    (h4 : ∀ j, j < n → dr ≠ id j) : Tb (os.set dr (.row 0 (rowB n d'))) dr n R d' id :=
  ⟨fun j hj => by rw [List.getElem?_set_ne (h4 j hj), h.rows j hj], List.getElem?_set_self (List.getElem?_eq_some_iff.1 h.dr).1⟩

theorem Tb.tip {os : List AObj} {dr n : Nat} {R : Nat → Nat → Bool} {d : Nat → Bool} {id : Nat → Nat} (h : Tb os dr n R d id)
    {t m k : Nat} (ht : os[t]? = some (.tip k)) : Tb (os.set t (.tip m)) dr n R d id := by
  have go : ∀ {j : Nat} {v : Nat} {cs : List AV}, os[j]? = some (.row v cs) → (os.set t (.tip m))[j]? = some (.row v cs) := by
    intro j v cs hj
    have hne : t ≠ j := by
      rintro rfl
      rw [ht] at hj; cases hj
    rw [List.getElem?_set_ne hne, hj]
  exact ⟨fun j hj => go (h.rows j hj), go h.dr⟩

theorem Tb.app {os : List AObj} {dr n : Nat} {R : Nat → Nat → Bool} {d : Nat → Bool} {id : Nat → Nat} (h : Tb os dr n R d id)
    (l : List AObj) : Tb (os ++ l) dr n R d id := by
  have go : ∀ {j : Nat} {o : AObj}, os[j]? = some o → (os ++ l)[j]? = some o := by
    intro j o hj
    rw [List.getElem?_append_left (List.getElem?_eq_some_iff.1 hj).1, hj]
  exact ⟨fun j hj => go (h.rows j hj), go h.dr⟩

theorem Tb.congr {os : List AObj} {dr n : Nat} {R : Nat → Nat → Bool} {d d' : Nat → Bool} {id : Nat → Nat} (h : Tb os dr n R d id) (hd : ∀ a, a < n → d a = d' a) : Tb os dr n R d' id :=
  ⟨h.rows, by rw [h.dr, rowB_congr fun a ha => by rw [hd a ha]]⟩

theorem loop10_4 {os : List AObj} {dr n : Nat} {R : Nat → Nat → Bool} {d : Nat → Bool} {id : Nat → Nat} (h : Tb os dr n R d id) (hn : n < 1000000) {b : Option Nat} {out lf : AV} {i : Nat} (hi : i < n) : ∀ (k j : Nat), j + k = n → ∀ fl : Bool,
    thenE (catchE (It T b10_4 [3, 4, 5, 6, 7, 8, 9, 10] none [(3, .list .shared 1 (refs n id)), (4, .int .i64 n), (5, .ref dr 0 0 n), (6, out), (7, lf), (8, .int .i64 i), (9, .bool fl), (10, .int .i64 j)] ⟨os, b⟩) 4) (Ev T b10_6) =
      if (fl && (List.range' j k).all fun k => !(R i k && !d k && !R k i)) = true then Ev T b10_7 [(3, .list .shared 1 (refs n id)), (4, .int .i64 n), (5, .ref dr 0 0 n), (6, out), (7, lf), (8, .int .i64 i), (64, .bool false)] ⟨os, b⟩
      else some (.ext 3, [(3, .list .shared 1 (refs n id)), (4, .int .i64 n), (5, .ref dr 0 0 n), (6, out), (7, lf), (8, .int .i64 i), (64, .bool true)], ⟨os, b⟩) := by
  intro k
  induction k with
  | zero =>
    intro j hj fl
    have : j = n := by omega
    subst this
    rw [It_step]
    cases fl
    · simp (disch := first | omega | (simp only [List.length_append, List.length_cons, List.length_nil, List.length_set, List.length_map, List.length_replicate, List.length_range, rowB_len, refs_len, put_len]; omega)) only [go_sem, ↓reduceIte, Nat.reduceEqDiff, Nat.reduceAdd, Nat.reduceMul, Nat.reduceSub, Nat.reduceLT, Nat.reduceLeDiff, Nat.reduceGT, Int.reduceLT, Int.reduceLE, Int.reduceEq, Int.reduceAdd, Int.reduceNeg, Int.reduceToNat, String.reduceEq, Bool.not_eq_true, Bool.false_eq_true, if_true, if_false, reduceCtorEq, not_true_eq_false, not_false_eq_true, decide_true, decide_false, and_self, true_or, or_true, false_or, or_false, false_and, and_false, ne_eq, Bool.or_true, Bool.true_or, Bool.or_false, Bool.false_or, if_pos, if_neg, decide_eq_true, decide_eq_false, unf b10_4.eq_1, unf b10_6.eq_1, List.range'_zero, List.all_nil]
    · simp (disch := first | omega | (simp only [List.length_append, List.length_cons, List.length_nil, List.length_set, List.length_map, List.length_replicate, List.length_range, rowB_len, refs_len, put_len]; omega)) only [go_sem, ↓reduceIte, Nat.reduceEqDiff, Nat.reduceAdd, Nat.reduceMul, Nat.reduceSub, Nat.reduceLT, Nat.reduceLeDiff, Nat.reduceGT, Int.reduceLT, Int.reduceLE, Int.reduceEq, Int.reduceAdd, Int.reduceNeg, Int.reduceToNat, String.reduceEq, Bool.not_eq_true, Bool.false_eq_true, if_true, if_false, reduceCtorEq, not_true_eq_false, not_false_eq_true, decide_true, decide_false, and_self, true_or, or_true, false_or, or_false, false_and, and_false, ne_eq, Bool.or_true, Bool.true_or, Bool.or_false, Bool.false_or, if_pos, if_neg, decide_eq_true, decide_eq_false, unf b10_4.eq_1, unf b10_6.eq_1, List.range'_zero, List.all_nil]
  | succ k ih =>
    intro j hj fl
    have hw : IntKind.wrap .i64 ((j : Int) + 1) = ((j + 1 : Nat) : Int) := by rw [wrap_id] <;> omega
    have h2 := ih (j + 1) (by omega)
    rw [It_step, List.range'_succ, List.all_cons]
    cases fl with
    | false =>
      simp (disch := first | omega | (simp only [List.length_append, List.length_cons, List.length_nil, List.length_set, List.length_map, List.length_replicate, List.length_range, rowB_len, refs_len, put_len]; omega)) only [go_sem, ↓reduceIte, Nat.reduceEqDiff, Nat.reduceAdd, Nat.reduceMul, Nat.reduceSub, Nat.reduceLT, Nat.reduceLeDiff, Nat.reduceGT, Int.reduceLT, Int.reduceLE, Int.reduceEq, Int.reduceAdd, Int.reduceNeg, Int.reduceToNat, String.reduceEq, Bool.not_eq_true, Bool.false_eq_true, if_true, if_false, reduceCtorEq, not_true_eq_false, not_false_eq_true, decide_true, decide_false, and_self, true_or, or_true, false_or, or_false, false_and, and_false, ne_eq, Bool.or_true, Bool.true_or, Bool.or_false, Bool.false_or, if_pos, if_neg, decide_eq_true, decide_eq_false, unf b10_4.eq_1, unf b10_6.eq_1]
    | true =>
      cases h0 : R i j with
      | false =>
        simp (disch := first | omega | (simp only [List.length_append, List.length_cons, List.length_nil, List.length_set, List.length_map, List.length_replicate, List.length_range, rowB_len, refs_len, put_len]; omega)) only [go_sem, ↓reduceIte, Nat.reduceEqDiff, Nat.reduceAdd, Nat.reduceMul, Nat.reduceSub, Nat.reduceLT, Nat.reduceLeDiff, Nat.reduceGT, Int.reduceLT, Int.reduceLE, Int.reduceEq, Int.reduceAdd, Int.reduceNeg, Int.reduceToNat, String.reduceEq, Bool.not_eq_true, Bool.false_eq_true, if_true, if_false, reduceCtorEq, not_true_eq_false, not_false_eq_true, decide_true, decide_false, and_self, true_or, or_true, false_or, or_false, false_and, and_false, ne_eq, Bool.or_true, Bool.true_or, Bool.or_false, Bool.false_or, if_pos, if_neg, decide_eq_true, decide_eq_false, unf b10_4.eq_1, unf b10_5.eq_1, hw, h.rows, h.dr, h0]
        have h3 := h2 true
        rw [Bool.true_and] at h3
        exact h3
      | true =>
        cases h1 : d j with
        | true =>
          simp (disch := first | omega | (simp only [List.length_append, List.length_cons, List.length_nil, List.length_set, List.length_map, List.length_replicate, List.length_range, rowB_len, refs_len, put_len]; omega)) only [go_sem, ↓reduceIte, Nat.reduceEqDiff, Nat.reduceAdd, Nat.reduceMul, Nat.reduceSub, Nat.reduceLT, Nat.reduceLeDiff, Nat.reduceGT, Int.reduceLT, Int.reduceLE, Int.reduceEq, Int.reduceAdd, Int.reduceNeg, Int.reduceToNat, String.reduceEq, Bool.not_eq_true, Bool.false_eq_true, if_true, if_false, reduceCtorEq, not_true_eq_false, not_false_eq_true, decide_true, decide_false, and_self, true_or, or_true, false_or, or_false, false_and, and_false, ne_eq, Bool.or_true, Bool.true_or, Bool.or_false, Bool.false_or, if_pos, if_neg, decide_eq_true, decide_eq_false, unf b10_4.eq_1, unf b10_5.eq_1, hw, h.rows, h.dr, h0, h1]
          have h3 := h2 true
          rw [Bool.true_and] at h3
          exact h3
        | false =>
          cases h3 : R j i with
          | true =>
            simp (disch := first | omega | (simp only [List.length_append, List.length_cons, List.length_nil, List.length_set, List.length_map, List.length_replicate, List.length_range, rowB_len, refs_len, put_len]; omega)) only [go_sem, ↓reduceIte, Nat.reduceEqDiff, Nat.reduceAdd, Nat.reduceMul, Nat.reduceSub, Nat.reduceLT, Nat.reduceLeDiff, Nat.reduceGT, Int.reduceLT, Int.reduceLE, Int.reduceEq, Int.reduceAdd, Int.reduceNeg, Int.reduceToNat, String.reduceEq, Bool.not_eq_true, Bool.false_eq_true, if_true, if_false, reduceCtorEq, not_true_eq_false, not_false_eq_true, decide_true, decide_false, and_self, true_or, or_true, false_or, or_false, false_and, and_false, ne_eq, Bool.or_true, Bool.true_or, Bool.or_false, Bool.false_or, if_pos, if_neg, decide_eq_true, decide_eq_false, unf b10_4.eq_1, unf b10_5.eq_1, hw, h.rows, h.dr, h0, h1, h3]
            have h3 := h2 true
            rw [Bool.true_and] at h3
            exact h3
          | false =>
            simp (disch := first | omega | (simp only [List.length_append, List.length_cons, List.length_nil, List.length_set, List.length_map, List.length_replicate, List.length_range, rowB_len, refs_len, put_len]; omega)) only [go_sem, ↓reduceIte, Nat.reduceEqDiff, Nat.reduceAdd, Nat.reduceMul, Nat.reduceSub, Nat.reduceLT, Nat.reduceLeDiff, Nat.reduceGT, Int.reduceLT, Int.reduceLE, Int.reduceEq, Int.reduceAdd, Int.reduceNeg, Int.reduceToNat, String.reduceEq, Bool.not_eq_true, Bool.false_eq_true, if_true, if_false, reduceCtorEq, not_true_eq_false, not_false_eq_true, decide_true, decide_false, and_self, true_or, or_true, false_or, or_false, false_and, and_false, ne_eq, Bool.or_true, Bool.true_or, Bool.or_false, Bool.false_or, if_pos, if_neg, decide_eq_true, decide_eq_false, unf b10_4.eq_1, unf b10_5.eq_1, hw, h.rows, h.dr, h0, h1, h3]
            have h3 := h2 false
            simpa only [Bool.false_and, Bool.false_eq_true, if_false] using h3

theorem loop10_8 {dr n : Nat} {R : Nat → Nat → Bool} {id : Nat → Nat} (hn : n < 1000000) {b : Option Nat} {out : AV} {i t : Nat} (hi : i < n)
    (h4 : ∀ j, j < n → dr ≠ id j) (h5 : dr ≠ t) : ∀ (k j : Nat), j + k = n → ∀ (os : List AObj) (d : Nat → Bool) (comp : List Nat) (lf : Int), Tb os dr n R d id → os[t]? = some (.tip comp.length) → comp.length ≤ j → -1000000 ≤ lf - k → lf ≤ 1000000 →
    ∃ os', catchE (It T b10_8 [3, 4, 5, 6, 7, 8, 11, 12] none [(3, .list .shared 1 (refs n id)), (4, .int .i64 n), (5, .ref dr 0 0 n), (6, out), (7, .int .i64 lf), (8, .int .i64 i), (11, .list (.own t) 1 (comp.map vN)), (12, .int .i64 j)] ⟨os, b⟩) 6 =
      some (.nrm, [(3, .list .shared 1 (refs n id)), (4, .int .i64 n), (5, .ref dr 0 0 n), (6, out), (7, .int .i64 (lf - (((List.range' j k).filter fun k => R i k && R k i).length : Nat))), (8, .int .i64 i), (11, .list (.own t) 1 ((comp ++ (List.range' j k).filter fun k => R i k && R k i).map vN)), (12, .int .i64 n), (67, .bool false)], ⟨os', b⟩) ∧
      Tb os' dr n R (fun a => d a || (decide (j ≤ a) && (R i a && R a i))) id ∧ os'.length = os.length ∧ ∀ x, x ≠ dr → x ≠ t → os'[x]? = os[x]? := by
  intro k
  induction k with
  | zero =>
    intro j hj os d comp lf h ht _ _ _
    have : j = n := by omega
    subst this
    refine ⟨os, ?_, h.congr fun a ha => by simp [show ¬ j ≤ a by omega], rfl, fun _ _ _ => rfl⟩
    rw [It_step]
    simp (disch := first | omega | (simp only [List.length_append, List.length_cons, List.length_nil, List.length_set, List.length_map, List.length_replicate, List.length_range, rowB_len, refs_len, put_len]; omega)) only [go_sem, ↓reduceIte, Nat.reduceEqDiff, Nat.reduceAdd, Nat.reduceMul, Nat.reduceSub, Nat.reduceLT, Nat.reduceLeDiff, Nat.reduceGT, Int.reduceLT, Int.reduceLE, Int.reduceEq, Int.reduceAdd, Int.reduceNeg, Int.reduceToNat, String.reduceEq, Bool.not_eq_true, Bool.false_eq_true, if_true, if_false, reduceCtorEq, not_true_eq_false, not_false_eq_true, decide_true, decide_false, and_self, true_or, or_true, false_or, or_false, false_and, and_false, ne_eq, Bool.or_true, Bool.true_or, Bool.or_false, Bool.false_or, if_pos, if_neg, decide_eq_true, decide_eq_false, unf b10_8.eq_1, List.range'_zero, List.filter_nil, Int.natCast_zero, Int.sub_zero]
  | succ k ih =>
    intro j hj os d comp lf h ht hcj hl1 hl2
    have hw : IntKind.wrap .i64 ((j : Int) + 1) = ((j + 1 : Nat) : Int) := by rw [wrap_id] <;> omega
    rw [List.range'_succ, List.filter_cons]
    have skip : R i j = false ∨ R j i = false → ∀ a, a < n → (fun a => d a || (decide (j + 1 ≤ a) && (R i a && R a i))) a = (fun a => d a || (decide (j ≤ a) && (R i a && R a i))) a := by
      intro hs a _
      by_cases haj : a = j
      · subst haj; rcases hs with hs | hs <;> simp [hs]
      · simp only [show (j + 1 ≤ a) = (j ≤ a) from propext ⟨fun _ => by omega, fun _ => by omega⟩]
    cases h0 : R i j with
    | false =>
      obtain ⟨os', e1, e2, e3, e4⟩ := ih (j + 1) (by omega) os d comp lf h ht (by omega) (by omega) (by omega)
      refine ⟨os', ?_, e2.congr (skip (.inl h0)), e3, e4⟩
      rw [It_step]
      rw [List.map_append] at e1
      simp (disch := first | omega | (simp only [List.length_append, List.length_cons, List.length_nil, List.length_set, List.length_map, List.length_replicate, List.length_range, rowB_len, refs_len, put_len]; omega)) only [go_sem, ↓reduceIte, Nat.reduceEqDiff, Nat.reduceAdd, Nat.reduceMul, Nat.reduceSub, Nat.reduceLT, Nat.reduceLeDiff, Nat.reduceGT, Int.reduceLT, Int.reduceLE, Int.reduceEq, Int.reduceAdd, Int.reduceNeg, Int.reduceToNat, String.reduceEq, Bool.not_eq_true, Bool.false_eq_true, if_true, if_false, reduceCtorEq, not_true_eq_false, not_false_eq_true, decide_true, decide_false, and_self, true_or, or_true, false_or, or_false, false_and, and_false, ne_eq, Bool.or_true, Bool.true_or, Bool.or_false, Bool.false_or, if_pos, if_neg, decide_eq_true, decide_eq_false, unf b10_8.eq_1, unf b10_9.eq_1, unf b10_10.eq_1, hw, h.rows, h0]
      exact e1
    | true =>
      cases h6 : R j i with
      | false =>
        obtain ⟨os', e1, e2, e3, e4⟩ := ih (j + 1) (by omega) os d comp lf h ht (by omega) (by omega) (by omega)
        refine ⟨os', ?_, e2.congr (skip (.inr h6)), e3, e4⟩
        rw [It_step]
        rw [List.map_append] at e1
        simp (disch := first | omega | (simp only [List.length_append, List.length_cons, List.length_nil, List.length_set, List.length_map, List.length_replicate, List.length_range, rowB_len, refs_len, put_len]; omega)) only [go_sem, ↓reduceIte, Nat.reduceEqDiff, Nat.reduceAdd, Nat.reduceMul, Nat.reduceSub, Nat.reduceLT, Nat.reduceLeDiff, Nat.reduceGT, Int.reduceLT, Int.reduceLE, Int.reduceEq, Int.reduceAdd, Int.reduceNeg, Int.reduceToNat, String.reduceEq, Bool.not_eq_true, Bool.false_eq_true, if_true, if_false, reduceCtorEq, not_true_eq_false, not_false_eq_true, decide_true, decide_false, and_self, true_or, or_true, false_or, or_false, false_and, and_false, ne_eq, Bool.or_true, Bool.true_or, Bool.or_false, Bool.false_or, if_pos, if_neg, decide_eq_true, decide_eq_false, unf b10_8.eq_1, unf b10_9.eq_1, unf b10_10.eq_1, hw, h.rows, h0, h6]
        exact e1
      | true =>
        have htl : t < os.length := (List.getElem?_eq_some_iff.1 ht).1
        have hdl : dr < os.length := (List.getElem?_eq_some_iff.1 h.dr).1
        have hw2 : IntKind.wrap .i64 (lf - 1) = lf - 1 := by rw [wrap_id] <;> omega
        have hdr' : (os.set t (.tip (comp.length + 1)))[dr]? = some (.row 0 (rowB n d)) := (h.tip ht).dr
        obtain ⟨os', e1, e2, e3, e4⟩ := ih (j + 1) (by omega) ((os.set t (.tip (comp.length + 1))).set dr (.row 0 (rowB n fun k => d k || decide (k = j)))) (fun k => d k || decide (k = j)) (comp ++ [j]) (lf - 1)
          ((h.tip ht).put h4) (by rw [List.getElem?_set_ne h5, List.getElem?_set_self htl]; simp) (by simp; omega) (by omega) (by omega)
        refine ⟨os', ?_, e2.congr ?_, by rw [e3]; simp, ?_⟩
        · rw [It_step]
          simp only [List.map_append, List.map_cons, List.map_nil, List.append_assoc, List.cons_append, List.nil_append] at e1
          rw [show lf - 1 - (((List.range' (j + 1) k).filter fun k => R i k && R k i).length : Nat) = lf - (((List.range' (j + 1) k).filter fun k => R i k && R k i).length + 1 : Nat) by omega] at e1
          simp (disch := first | omega | (simp only [List.length_append, List.length_cons, List.length_nil, List.length_set, List.length_map, List.length_replicate, List.length_range, rowB_len, refs_len, put_len]; omega)) only [go_sem, ↓reduceIte, Nat.reduceEqDiff, Nat.reduceAdd, Nat.reduceMul, Nat.reduceSub, Nat.reduceLT, Nat.reduceLeDiff, Nat.reduceGT, Int.reduceLT, Int.reduceLE, Int.reduceEq, Int.reduceAdd, Int.reduceNeg, Int.reduceToNat, String.reduceEq, Bool.not_eq_true, Bool.false_eq_true, if_true, if_false, reduceCtorEq, not_true_eq_false, not_false_eq_true, decide_true, decide_false, and_self, true_or, or_true, false_or, or_false, false_and, and_false, ne_eq, Bool.or_true, Bool.true_or, Bool.or_false, Bool.false_or, if_pos, if_neg, decide_eq_true, decide_eq_false, unf b10_8.eq_1, unf b10_9.eq_1, unf b10_10.eq_1, hw, hw2, h.rows, h0, h6, ht, hdr', rowB_set]
          exact e1
        · intro a ha
          by_cases haj : a = j
          · subst haj; simp [h0, h6]
          · simp only [haj, decide_false, Bool.or_false, show (j + 1 ≤ a) = (j ≤ a) from propext ⟨fun _ => by omega, fun _ => by omega⟩]
        · intro x hx hx'
          rw [e4 x hx hx', List.getElem?_set_ne (fun e => hx e.symm), List.getElem?_set_ne (fun e => hx' e.symm)]
theorem count_split {p q r : Nat → Bool} (h : ∀ a, p a = true → (q a = true ∧ r a = false) ∨ (q a = false ∧ r a = true)) (h' : ∀ a, p a = false → q a = false ∧ r a = false) : ∀ l : List Nat, (l.filter p).length = (l.filter q).length + (l.filter r).length := by
  intro l
  induction l with
  | nil => rfl
  | cons x xs ih =>
    simp only [List.filter_cons]
    cases hp : p x with
    | true =>
      rcases h x hp with ⟨h1, h2⟩ | ⟨h1, h2⟩ <;> simp [h1, h2, ih] <;> omega
    | false =>
      obtain ⟨h1, h2⟩ := h' x hp
      simp [h1, h2, ih]

/-- Whole classes are marked. -/
def Shut (n : Nat) (R : Nat → Nat → Bool) (d : Nat → Bool) : Prop := ∀ a b, a < n → b < n → R a b = true → R b a = true → d a = true → d b = true

theorem Shut.mark {n : Nat} {R : Nat → Nat → Bool} (hR : Pre n R) {d : Nat → Bool} (h : Shut n R d) {i : Nat} (hi : i < n) : Shut n R (mark R d i) := by
  intro a b ha hb h1 h2 h3
  simp only [Proofs.G11.mark, Bool.or_eq_true, Bool.and_eq_true] at h3 ⊢
  rcases h3 with h3 | ⟨h3, h4⟩
  · exact .inl (h a b ha hb h1 h2 h3)
  · exact .inr ⟨hR.trans i a b hi ha hb h3 h1, hR.trans b a i hb ha hi h2 h4⟩

theorem cnt_cls {n : Nat} {R : Nat → Nat → Bool} {d : Nat → Bool} (h : Shut n R d) {i : Nat} (hi : i < n) (hd : d i = false) : cnt n d = cnt n (mark R d i) + (cls n R i).length := by
  unfold cnt cls
  have cut : ∀ (p : Nat → Bool), (List.range n).filter p = (List.range n).filter fun a => decide (a < n) && p a := by
    intro p
    apply List.filter_congr
    intro x hx
    simp [List.mem_range.1 hx]
  rw [cut fun a => !d a, cut fun a => !mark R d i a, cut fun k => R i k && R k i]
  apply count_split
  · intro a ha
    simp only [Bool.and_eq_true, decide_eq_true_eq, Bool.not_eq_true'] at ha
    cases hc : (R i a && R a i) with
    | true => exact .inr (by simp [ha.1, mark, hc])
    | false => exact .inl (by simp [ha.1, mark, hc, ha.2])
  · intro a ha
    by_cases han : a < n
    · simp only [han, decide_true, Bool.true_and, Bool.not_eq_false'] at ha
      refine ⟨by simp [mark, ha], ?_⟩
      cases hc : (R i a && R a i) with
      | false => simp
      | true =>
        simp only [Bool.and_eq_true] at hc
        have := h a i han hi hc.2 hc.1 ha
        rw [hd] at this; cases this
    · simp [han]

theorem cnt_le {n : Nat} {d : Nat → Bool} : cnt n d ≤ n := by
  unfold cnt
  refine Nat.le_trans (List.length_filter_le _ _) (by simp)

theorem loop10_2 {os : List AObj} {dr n : Nat} {R : Nat → Nat → Bool} {d : Nat → Bool} {id : Nat → Nat} (h : Tb os dr n R d id) (hs : Shut n R d) (hn : n < 1000000) {b : Option Nat} {ot n0 : Nat} {out : List (List Nat)}
    (h4 : ∀ j, j < n → dr ≠ id j) (h5 : dr ≠ ot) (h6 : n0 ≤ dr) (h7 : n0 ≤ ot) (ht : os[ot]? = some (.tip out.length)) (hol : out.length < 1000000000) {j : Nat} (hj : next n R d = some j) : ∀ (k i : Nat), i + k = j →
    ∃ os', catchE (It T b10_2 [3, 4, 5, 6, 7, 8] none [(3, .list .shared 1 (refs n id)), (4, .int .i64 n), (5, .ref dr 0 0 n), (6, .list (.own ot) 1 (out.map vNs)), (7, .int .i64 (cnt n d)), (8, .int .i64 i)] ⟨os, b⟩) 2 =
      some (.nrm, [(3, .list .shared 1 (refs n id)), (4, .int .i64 n), (5, .ref dr 0 0 n), (6, .list (.own ot) 1 ((out ++ [cls n R j]).map vNs)), (7, .int .i64 (cnt n (mark R d j))), (8, .int .i64 (n + 1 : Nat)), (24, .bool false)], ⟨os', b⟩) ∧
      Tb os' dr n R (mark R d j) id ∧ os'[ot]? = some (.tip (out.length + 1)) ∧ ∀ x, x < n0 → os'[x]? = os[x]? := by
  obtain ⟨j1, j2, j3, j4⟩ := next_some hj
  have hcc := cnt_cls hs j1 j2
  have hle : cnt n d ≤ n := cnt_le
  intro k
  induction k with
  | zero =>
    intro i hi
    have : i = j := by omega
    subst this
    have hotl : ot < os.length := (List.getElem?_eq_some_iff.1 ht).1
    have hdl : dr < os.length := (List.getElem?_eq_some_iff.1 h.dr).1
    obtain ⟨os1, e1, e2, e3, e4⟩ := loop10_8 (b := b) (R := R) (out := .list (.own ot) 1 (out.map vNs)) (t := os.length) hn j1 h4 (by omega) n 0 (by omega) (os ++ [.tip 0]) d [] (cnt n d) (h.app _) (by rw [app_get]; rfl) (Nat.le_refl _) (by omega) (by omega)
    have hto : os1[ot]? = some (.tip out.length) := by
      rw [e4 ot (by omega) (by omega), List.getElem?_append_left hotl, ht]
    refine ⟨os1.set ot (.tip (out.length + 1)), ?_, (e2.congr fun a _ => by simp [mark]).tip hto, by rw [List.getElem?_set_self (by rw [e3]; simp; omega)], ?_⟩
    · have l4 := loop10_4 (b := b) (out := .list (.own ot) 1 (out.map vNs)) (lf := .int .i64 (cnt n d)) h hn j1 n 0 (by omega) true
      have hr : (true && (List.range' 0 n).all fun k => !(R i k && !d k && !R k i)) = true := by
        rw [Bool.true_and, ← List.range_eq_range']; exact j3
      rw [if_pos hr] at l4
      rw [show ((0 : Nat) : Int) = 0 from rfl] at l4 e1
      rw [← List.range_eq_range'] at e1
      rw [It_step]
      have hw : IntKind.wrap .i64 ((n : Int) + 1) = ((n + 1 : Nat) : Int) := by rw [wrap_id] <;> omega
      have hcl : ((cnt n d : Nat) : Int) - (((List.range n).filter fun k => R i k && R k i).length : Nat) = ((cnt n (mark R d i) : Nat) : Int) := by
        have : ((List.range n).filter fun k => R i k && R k i).length = (cls n R i).length := rfl
        omega
      rw [hcl] at e1
      have ho2 : out.length + 1 < 1000000001 := by omega
      have hgt : ¬ ((n + 1 : Nat) : Int) < (n : Int) := by omega
      simp only [List.map_nil, List.nil_append] at e1
      simp (disch := first | omega | (simp only [List.length_append, List.length_cons, List.length_nil, List.length_set, List.length_map, List.length_replicate, List.length_range, rowB_len, refs_len, put_len]; omega)) only [go_sem, ↓reduceIte, Nat.reduceEqDiff, Nat.reduceAdd, Nat.reduceMul, Nat.reduceSub, Nat.reduceLT, Nat.reduceLeDiff, Nat.reduceGT, Int.reduceLT, Int.reduceLE, Int.reduceEq, Int.reduceAdd, Int.reduceNeg, Int.reduceToNat, String.reduceEq, Bool.not_eq_true, Bool.false_eq_true, if_true, if_false, reduceCtorEq, not_true_eq_false, not_false_eq_true, decide_true, decide_false, and_self, true_or, or_true, false_or, or_false, false_and, and_false, ne_eq, Bool.or_true, Bool.true_or, Bool.or_false, Bool.false_or, if_pos, if_neg, decide_eq_true, decide_eq_false, unf b10_2.eq_1, unf b10_3.eq_1, h.dr, j2, l4]
      simp (disch := first | omega | (simp only [List.length_append, List.length_cons, List.length_nil, List.length_set, List.length_map, List.length_replicate, List.length_range, rowB_len, refs_len, put_len]; omega)) only [go_sem, ↓reduceIte, Nat.reduceEqDiff, Nat.reduceAdd, Nat.reduceMul, Nat.reduceSub, Nat.reduceLT, Nat.reduceLeDiff, Nat.reduceGT, Int.reduceLT, Int.reduceLE, Int.reduceEq, Int.reduceAdd, Int.reduceNeg, Int.reduceToNat, String.reduceEq, Bool.not_eq_true, Bool.false_eq_true, if_true, if_false, reduceCtorEq, not_true_eq_false, not_false_eq_true, decide_true, decide_false, and_self, true_or, or_true, false_or, or_false, false_and, and_false, ne_eq, Bool.or_true, Bool.true_or, Bool.or_false, Bool.false_or, if_pos, if_neg, decide_eq_true, decide_eq_false, unf b10_7.eq_1, e1]
      simp (disch := first | omega | (simp only [List.length_append, List.length_cons, List.length_nil, List.length_set, List.length_map, List.length_replicate, List.length_range, rowB_len, refs_len, put_len]; omega)) only [go_sem, ↓reduceIte, Nat.reduceEqDiff, Nat.reduceAdd, Nat.reduceMul, Nat.reduceSub, Nat.reduceLT, Nat.reduceLeDiff, Nat.reduceGT, Int.reduceLT, Int.reduceLE, Int.reduceEq, Int.reduceAdd, Int.reduceNeg, Int.reduceToNat, String.reduceEq, Bool.not_eq_true, Bool.false_eq_true, if_true, if_false, reduceCtorEq, not_true_eq_false, not_false_eq_true, decide_true, decide_false, and_self, true_or, or_true, false_or, or_false, false_and, and_false, ne_eq, Bool.or_true, Bool.true_or, Bool.or_false, Bool.false_or, if_pos, if_neg, decide_eq_true, decide_eq_false, unf b10_11.eq_1, unf b10_12.eq_1, hto, under_vN, hw]
      rw [It_step]
      simp (disch := first | omega | (simp only [List.length_append, List.length_cons, List.length_nil, List.length_set, List.length_map, List.length_replicate, List.length_range, rowB_len, refs_len, put_len]; omega)) only [go_sem, ↓reduceIte, Nat.reduceEqDiff, Nat.reduceAdd, Nat.reduceMul, Nat.reduceSub, Nat.reduceLT, Nat.reduceLeDiff, Nat.reduceGT, Int.reduceLT, Int.reduceLE, Int.reduceEq, Int.reduceAdd, Int.reduceNeg, Int.reduceToNat, String.reduceEq, Bool.not_eq_true, Bool.false_eq_true, if_true, if_false, reduceCtorEq, not_true_eq_false, not_false_eq_true, decide_true, decide_false, and_self, true_or, or_true, false_or, or_false, false_and, and_false, ne_eq, Bool.or_true, Bool.true_or, Bool.or_false, Bool.false_or, if_pos, if_neg, decide_eq_true, decide_eq_false, unf b10_2.eq_1]
      rfl
    · intro x hx
      rw [List.getElem?_set_ne (by omega), e4 x (by omega) (by omega), List.getElem?_append_left (by omega)]
  | succ k ih =>
    intro i hi
    have hin : i < n := by omega
    have hw : IntKind.wrap .i64 ((i : Int) + 1) = ((i + 1 : Nat) : Int) := by rw [wrap_id] <;> omega
    obtain ⟨os', g1, g2, g3, g4⟩ := ih (i + 1) (by omega)
    refine ⟨os', ?_, g2, g3, g4⟩
    simp only [List.map_append, List.map_cons, List.map_nil] at g1
    have hf := j4 i (by omega)
    rw [It_step]
    cases h0 : d i with
    | true =>
      have l4 := loop10_4 (b := b) (out := .list (.own ot) 1 (out.map vNs)) (lf := .int .i64 (cnt n d)) h hn hin n 0 (by omega) false
      rw [show ((0 : Nat) : Int) = 0 from rfl] at l4
      simp only [Bool.false_and, Bool.false_eq_true, if_false] at l4
      simp (disch := first | omega | (simp only [List.length_append, List.length_cons, List.length_nil, List.length_set, List.length_map, List.length_replicate, List.length_range, rowB_len, refs_len, put_len]; omega)) only [go_sem, ↓reduceIte, Nat.reduceEqDiff, Nat.reduceAdd, Nat.reduceMul, Nat.reduceSub, Nat.reduceLT, Nat.reduceLeDiff, Nat.reduceGT, Int.reduceLT, Int.reduceLE, Int.reduceEq, Int.reduceAdd, Int.reduceNeg, Int.reduceToNat, String.reduceEq, Bool.not_eq_true, Bool.false_eq_true, if_true, if_false, reduceCtorEq, not_true_eq_false, not_false_eq_true, decide_true, decide_false, and_self, true_or, or_true, false_or, or_false, false_and, and_false, ne_eq, Bool.or_true, Bool.true_or, Bool.or_false, Bool.false_or, if_pos, if_neg, decide_eq_true, decide_eq_false, unf b10_2.eq_1, unf b10_3.eq_1, unf b10_12.eq_1, h.dr, h0, hw, l4]
      exact g1
    | false =>
      have hr : ready n R d i = false := by simpa [free, h0] using hf
      have l4 := loop10_4 (b := b) (out := .list (.own ot) 1 (out.map vNs)) (lf := .int .i64 (cnt n d)) h hn hin n 0 (by omega) true
      rw [show ((0 : Nat) : Int) = 0 from rfl, Bool.true_and, ← List.range_eq_range'] at l4
      unfold ready at hr
      simp only [hr, Bool.false_eq_true, if_false] at l4
      simp (disch := first | omega | (simp only [List.length_append, List.length_cons, List.length_nil, List.length_set, List.length_map, List.length_replicate, List.length_range, rowB_len, refs_len, put_len]; omega)) only [go_sem, ↓reduceIte, Nat.reduceEqDiff, Nat.reduceAdd, Nat.reduceMul, Nat.reduceSub, Nat.reduceLT, Nat.reduceLeDiff, Nat.reduceGT, Int.reduceLT, Int.reduceLE, Int.reduceEq, Int.reduceAdd, Int.reduceNeg, Int.reduceToNat, String.reduceEq, Bool.not_eq_true, Bool.false_eq_true, if_true, if_false, reduceCtorEq, not_true_eq_false, not_false_eq_true, decide_true, decide_false, and_self, true_or, or_true, false_or, or_false, false_and, and_false, ne_eq, Bool.or_true, Bool.true_or, Bool.or_false, Bool.false_or, if_pos, if_neg, decide_eq_true, decide_eq_false, unf b10_2.eq_1, unf b10_3.eq_1, unf b10_12.eq_1, h.dr, h0, hw, l4]
      exact g1

theorem loop10_0 {dr n : Nat} {R : Nat → Nat → Bool} (hR : Pre n R) {id : Nat → Nat} (hn : n < 1000000) {b : Option Nat} {ot n0 : Nat}
    (h4 : ∀ j, j < n → dr ≠ id j) (h5 : dr ≠ ot) (h6 : n0 ≤ dr) (h7 : n0 ≤ ot) : ∀ (m : Nat) (os : List AObj) (d : Nat → Bool) (out : List (List Nat)), cnt n d ≤ m → out.length + m < 1000000000 → Tb os dr n R d id → Shut n R d → os[ot]? = some (.tip out.length) →
    ∃ os', thenE (catchE (It T b10_0 [3, 4, 5, 6, 7] none [(3, .list .shared 1 (refs n id)), (4, .int .i64 n), (5, .ref dr 0 0 n), (6, .list (.own ot) 1 (out.map vNs)), (7, .int .i64 (cnt n d))] ⟨os, b⟩) 0) (Ev T b10_13) =
      some (.ret, [(2, .list (.own ot) 1 ((out ++ run n R m d).map vNs))], ⟨os', b⟩) ∧ ∀ x, x < n0 → os'[x]? = os[x]? := by
  intro m
  have fin : ∀ (m : Nat) (os : List AObj) (d : Nat → Bool) (out : List (List Nat)), cnt n d = 0 →
      thenE (catchE (It T b10_0 [3, 4, 5, 6, 7] none [(3, .list .shared 1 (refs n id)), (4, .int .i64 n), (5, .ref dr 0 0 n), (6, .list (.own ot) 1 (out.map vNs)), (7, .int .i64 (cnt n d))] ⟨os, b⟩) 0) (Ev T b10_13) =
      some (.ret, [(2, .list (.own ot) 1 ((out ++ run n R m d).map vNs))], ⟨os, b⟩) := by
    intro m os d out hc
    have hall : ∀ a, a < n → d a = true := by
      intro a ha
      cases h : d a with
      | true => rfl
      | false => have := cnt_lt ha h; omega
    have hrun : run n R m d = [] := by
      cases m with
      | zero => rfl
      | succ m => simp only [run]; rw [next_none hall]
    rw [It_step, hrun, List.append_nil]
    simp (disch := first | omega | (simp only [List.length_append, List.length_cons, List.length_nil, List.length_set, List.length_map, List.length_replicate, List.length_range, rowB_len, refs_len, put_len]; omega)) only [go_sem, ↓reduceIte, Nat.reduceEqDiff, Nat.reduceAdd, Nat.reduceMul, Nat.reduceSub, Nat.reduceLT, Nat.reduceLeDiff, Nat.reduceGT, Int.reduceLT, Int.reduceLE, Int.reduceEq, Int.reduceAdd, Int.reduceNeg, Int.reduceToNat, String.reduceEq, Bool.not_eq_true, Bool.false_eq_true, if_true, if_false, reduceCtorEq, not_true_eq_false, not_false_eq_true, decide_true, decide_false, and_self, true_or, or_true, false_or, or_false, false_and, and_false, ne_eq, Bool.or_true, Bool.true_or, Bool.or_false, Bool.false_or, if_pos, if_neg, decide_eq_true, decide_eq_false, unf b10_0.eq_1, unf b10_13.eq_1, hc]
  induction m with
  | zero =>
    intro os d out hm _ h _ ht
    exact ⟨os, fin 0 os d out (by omega), fun _ _ => rfl⟩
  | succ m ih =>
    intro os d out hm ho h hs ht
    by_cases hc : cnt n d = 0
    · exact ⟨os, fin (m + 1) os d out hc, fun _ _ => rfl⟩
    · obtain ⟨i, q1, q2⟩ : ∃ i, i < n ∧ d i = false := by
        apply Classical.byContradiction
        intro hno
        apply hc
        unfold cnt
        rw [List.length_eq_zero_iff, List.filter_eq_nil_iff]
        intro a ha
        have han := List.mem_range.1 ha
        cases hda : d a with
        | true => simp
        | false => exact absurd ⟨a, han, hda⟩ hno
      obtain ⟨j, hj⟩ := next_ex hR q1 q2
      obtain ⟨j1, j2, j3, j4⟩ := next_some hj
      have hlt := cnt_mark hR j1 j2
      obtain ⟨os1, e1, e2, e3, e4⟩ := loop10_2 (b := b) h hs hn h4 h5 h6 h7 ht (by omega) hj j 0 (by omega)
      obtain ⟨os2, g1, g2⟩ := ih os1 (mark R d j) (out ++ [cls n R j]) (by omega) (by simp; omega) e2 (hs.mark hR j1) (by rw [e3]; simp)
      refine ⟨os2, ?_, fun x hx => by rw [g2 x hx, e4 x hx]⟩
      rw [It_step]
      simp only [run, hj]
      rw [show ((0 : Nat) : Int) = 0 from rfl] at e1
      simp only [List.append_assoc, List.cons_append, List.nil_append] at g1
      simp (disch := first | omega | (simp only [List.length_append, List.length_cons, List.length_nil, List.length_set, List.length_map, List.length_replicate, List.length_range, rowB_len, refs_len, put_len]; omega)) only [go_sem, ↓reduceIte, Nat.reduceEqDiff, Nat.reduceAdd, Nat.reduceMul, Nat.reduceSub, Nat.reduceLT, Nat.reduceLeDiff, Nat.reduceGT, Int.reduceLT, Int.reduceLE, Int.reduceEq, Int.reduceAdd, Int.reduceNeg, Int.reduceToNat, String.reduceEq, Bool.not_eq_true, Bool.false_eq_true, if_true, if_false, reduceCtorEq, not_true_eq_false, not_false_eq_true, decide_true, decide_false, and_self, true_or, or_true, false_or, or_false, false_and, and_false, ne_eq, Bool.or_true, Bool.true_or, Bool.or_false, Bool.false_or, if_pos, if_neg, decide_eq_true, decide_eq_false, unf b10_0.eq_1, unf b10_1.eq_1, e1]
      simpa only [List.map_append, List.map_cons, List.map_nil] using g1

/-- The reference's components. -/
theorem call10 (os0 : List AObj) (calls : List (List Int)) (hn : calls.length < 1000000) (hr : ∀ row, row ∈ calls → row.length < 9223372036854775808) (b0 : Option Nat) :
    Am.Call T 10 [vL calls] ⟨os0, b0⟩ = some (.list .shared 1 ((run calls.length (Rb calls) calls.length fun _ => false).map vNs), ⟨os0, b0⟩) := by
  obtain ⟨os, f, q1, q2, q3, q4⟩ := call12 ⟨os0, none⟩ calls hn hr
  simp only at q1 q3
  have hlen : (os0 ++ os).length = os0.length + 1 + calls.length := by simp; omega
  generalize hos : os0 ++ os = os1 at *
  let os2 := os1 ++ [.row 0 (rowB calls.length fun _ => false), .tip 0]
  have ht : Tb os2 os1.length calls.length (Rb calls) (fun _ => false) (fun j => os0.length + 1 + j) := by
    refine ⟨?_, ?_⟩
    · intro j hj
      simp only [os2]
      rw [List.getElem?_append_left (by omega), q3 j hj, rowB_congr fun a ha => (q4 j a hj ha).trans Rb_iff.symm]
    · simp only [os2]; rw [app_get]; rfl
  have hcnt : cnt calls.length (fun _ => false) = calls.length := by
    unfold cnt
    rw [List.filter_eq_self.2 (by simp)]
    simp
  obtain ⟨os3, g1, g2⟩ := loop10_0 (b := none) (ot := os1.length + 1) (n0 := os0.length) pre_Rb hn (fun j hj => by omega) (by omega) (by omega) (by omega) calls.length os2 (fun _ => false) [] (by omega) (by simp; omega) ht
    (fun _ _ _ _ _ _ h => by cases h) (by simp only [os2]; rw [app_get_add]; rfl)
  have hpre : os3.take os0.length = os0 := by
    apply List.ext_getElem?
    intro j
    by_cases hj : j < os0.length
    · rw [List.getElem?_take_of_lt hj, g2 j hj]
      simp only [os2]
      rw [List.getElem?_append_left (by omega), ← hos, List.getElem?_append_left hj]
    · rw [List.getElem?_eq_none (by simp; omega), List.getElem?_eq_none (by omega)]
  rw [Call_fn (fn := f10) rfl rfl]
  simp only [List.map_nil, List.nil_append, os2, hcnt] at g1
  simp (disch := first | omega | (simp only [List.length_append, List.length_cons, List.length_nil, List.length_set, List.length_map, List.length_replicate, List.length_range, rowB_len, refs_len, put_len]; omega)) only [go_sem, ↓reduceIte, Nat.reduceEqDiff, Nat.reduceAdd, Nat.reduceMul, Nat.reduceSub, Nat.reduceLT, Nat.reduceLeDiff, Nat.reduceGT, Int.reduceLT, Int.reduceLE, Int.reduceEq, Int.reduceAdd, Int.reduceNeg, Int.reduceToNat, String.reduceEq, Bool.not_eq_true, Bool.false_eq_true, if_true, if_false, reduceCtorEq, not_true_eq_false, not_false_eq_true, decide_true, decide_false, and_self, true_or, or_true, false_or, or_false, false_and, and_false, ne_eq, Bool.or_true, Bool.true_or, Bool.or_false, Bool.false_or, if_pos, if_neg, decide_eq_true, decide_eq_false, unf b10.eq_1, f10, q1, hos, rowB_false, mkSlice_row1, g1, hpre, under_vNs]
/-! the first law -/
theorem call8 {M : Mem} : Am.Call T 8 [] M = some (.bool true, M) := Call_orc (fn := { f8 with orc := orc0 (.bool true) }) rfl rfl

theorem great_false : ∀ (xs : List (List Int)) (i : Nat), great i xs = false → i + xs.length ≤ 20 := by
  intro xs
  induction xs with
  | nil =>
    intro i h
    simp only [great, decide_eq_false_iff_not] at h
    simp only [List.length_nil]; omega
  | cons x xs ih =>
    intro i h
    simp only [great] at h
    split at h
    · split at h
      · cases h
      · have := ih (i + 1) h
        simp only [List.length_cons]; omega
    · cases h

theorem run_len {n : Nat} {R : Nat → Nat → Bool} : ∀ (m : Nat) (d : Nat → Bool), (∀ c, c ∈ run n R m d → c.length ≤ n) ∧ (run n R m d).length ≤ m := by
  intro m
  induction m with
  | zero => intro d; exact ⟨fun c h => by simp [run] at h, by simp [run]⟩
  | succ m ih =>
    intro d
    simp only [run]
    cases next n R d with
    | none => exact ⟨fun c h => by simp at h, by simp⟩
    | some i =>
      refine ⟨fun c h => ?_, ?_⟩
      · rcases List.mem_cons.1 h with rfl | h
        · unfold cls
          refine Nat.le_trans (List.length_filter_le _ _) (by simp)
        · exact (ih _).1 c h
      · simp only [List.length_cons]; have := (ih (mark R d i)).2; omega

theorem vNs_eq (c : List Nat) : vNs c = vI (c.map fun (k : Nat) => (k : Int)) := by
  simp only [vNs, vI, List.map_map]
  rfl

theorem call11N (M : Mem) (c : List Nat) (h : c.length < 9223372036854775808) : Am.Call T 11 [vNs c, vNs c] M = some (.bool true, M) := by
  rw [vNs_eq, call11 M _ _ (by simpa using h) (by simpa using h)]
  simp

theorem loop3 : ∀ (xs pre : List (List Nat)), (∀ c, c ∈ xs → c.length < 9223372036854775808) → pre.length + xs.length < 1000000000 →
    thenE (catchE (It T b3_2 [3, 4, 5] (some (0, none)) [(3, .list .shared 1 ((pre ++ xs).map vNs)), (4, .list .shared 1 ((pre ++ xs).map vNs)), (5, .int .i64 pre.length)] ⟨[], none⟩) 0) (Ev T b3_6) = some (.ret, [(2, .bool true)], ⟨[], none⟩) := by
  intro xs
  induction xs with
  | nil =>
    intro pre _ hl
    rw [It_step]
    simp (disch := first | omega | (simp only [List.length_append, List.length_cons, List.length_nil, List.length_set, List.length_map, List.length_replicate, List.length_range, rowB_len, refs_len, put_len]; omega)) only [go_sem, ↓reduceIte, Nat.reduceEqDiff, Nat.reduceAdd, Nat.reduceMul, Nat.reduceSub, Nat.reduceLT, Nat.reduceLeDiff, Nat.reduceGT, Int.reduceLT, Int.reduceLE, Int.reduceEq, Int.reduceAdd, Int.reduceNeg, Int.reduceToNat, String.reduceEq, Bool.not_eq_true, Bool.false_eq_true, if_true, if_false, reduceCtorEq, not_true_eq_false, not_false_eq_true, decide_true, decide_false, and_self, true_or, or_true, false_or, or_false, false_and, and_false, ne_eq, Bool.or_true, Bool.true_or, Bool.or_false, Bool.false_or, if_pos, if_neg, decide_eq_true, decide_eq_false, unf b3_2.eq_1, unf b3_6.eq_1, under_vNs, call8, List.take_nil]
  | cons x xs ih =>
    intro pre hx hl
    have h2 := ih (pre ++ [x]) (fun c hc => hx c (List.mem_cons_of_mem _ hc)) (by simp at hl ⊢; omega)
    simp only [List.append_assoc, List.cons_append, List.nil_append, List.length_append, List.length_cons, List.length_nil] at h2 hl
    have hw : IntKind.wrap .i64 ((pre.length : Int) + 1) = ((pre.length + 1 : Nat) : Int) := by rw [wrap_id] <;> omega
    have hc := call11N ⟨[], none⟩ x (hx x List.mem_cons_self)
    rw [It_step]
    simp (disch := first | omega | (simp only [List.length_append, List.length_cons, List.length_nil, List.length_set, List.length_map, List.length_replicate, List.length_range, rowB_len, refs_len, put_len]; omega)) only [go_sem, ↓reduceIte, Nat.reduceEqDiff, Nat.reduceAdd, Nat.reduceMul, Nat.reduceSub, Nat.reduceLT, Nat.reduceLeDiff, Nat.reduceGT, Int.reduceLT, Int.reduceLE, Int.reduceEq, Int.reduceAdd, Int.reduceNeg, Int.reduceToNat, String.reduceEq, Bool.not_eq_true, Bool.false_eq_true, if_true, if_false, reduceCtorEq, not_true_eq_false, not_false_eq_true, decide_true, decide_false, and_self, true_or, or_true, false_or, or_false, false_and, and_false, ne_eq, Bool.or_true, Bool.true_or, Bool.or_false, Bool.false_or, if_pos, if_neg, decide_eq_true, decide_eq_false, unf b3_2.eq_1, unf b3_3.eq_1, Ev_regD q3_4, unfP d3_4.eq_1, unf b3_5.eq_1, under_vNs, under_vN, hw, hc, List.take_nil]
    simpa only [List.map_append, List.map_cons] using h2

theorem call3 (calls : List (List Int)) (h : calls.length < 9223372036854775808) (hr : ∀ row, row ∈ calls → row.length < 9223372036854775808) : Am.Call T 3 [vL calls] ⟨[], none⟩ = some (.bool true, ⟨[], none⟩) := by
  rw [Call_fn (fn := f3) rfl rfl]
  have h7 := call7 ⟨[], none⟩ calls h
  cases hg : great 0 calls with
  | true =>
    rw [hg] at h7
    simp (disch := first | omega | (simp only [List.length_append, List.length_cons, List.length_nil, List.length_set, List.length_map, List.length_replicate, List.length_range, rowB_len, refs_len, put_len]; omega)) only [go_sem, ↓reduceIte, Nat.reduceEqDiff, Nat.reduceAdd, Nat.reduceMul, Nat.reduceSub, Nat.reduceLT, Nat.reduceLeDiff, Nat.reduceGT, Int.reduceLT, Int.reduceLE, Int.reduceEq, Int.reduceAdd, Int.reduceNeg, Int.reduceToNat, String.reduceEq, Bool.not_eq_true, Bool.false_eq_true, if_true, if_false, reduceCtorEq, not_true_eq_false, not_false_eq_true, decide_true, decide_false, and_self, true_or, or_true, false_or, or_false, false_and, and_false, ne_eq, Bool.or_true, Bool.true_or, Bool.or_false, Bool.false_or, if_pos, if_neg, decide_eq_true, decide_eq_false, unf b3.eq_1, f3, h7, call8, List.take_nil]
  | false =>
    rw [hg] at h7
    have hn := great_false _ _ hg
    have h9 := call9 [] calls (by omega) hr none
    have h10 := call10 [] calls (by omega) hr none
    obtain ⟨hl1, hl2⟩ := run_len (n := calls.length) (R := Rb calls) calls.length fun _ => false
    have hl := loop3 (run calls.length (Rb calls) calls.length fun _ => false) [] (fun c hc => by have := hl1 c hc; omega) (by simp; omega)
    rw [List.length_nil, show ((0 : Nat) : Int) = 0 from rfl, List.nil_append] at hl
    simp (disch := first | omega | (simp only [List.length_append, List.length_cons, List.length_nil, List.length_set, List.length_map, List.length_replicate, List.length_range, rowB_len, refs_len, put_len]; omega)) only [go_sem, ↓reduceIte, Nat.reduceEqDiff, Nat.reduceAdd, Nat.reduceMul, Nat.reduceSub, Nat.reduceLT, Nat.reduceLeDiff, Nat.reduceGT, Int.reduceLT, Int.reduceLE, Int.reduceEq, Int.reduceAdd, Int.reduceNeg, Int.reduceToNat, String.reduceEq, Bool.not_eq_true, Bool.false_eq_true, if_true, if_false, reduceCtorEq, not_true_eq_false, not_false_eq_true, decide_true, decide_false, and_self, true_or, or_true, false_or, or_false, false_and, and_false, ne_eq, Bool.or_true, Bool.true_or, Bool.or_false, Bool.false_or, if_pos, if_neg, decide_eq_true, decide_eq_false, unf b3.eq_1, unf b3_0.eq_1, unf b3_1.eq_1, f3, h7, h9, h10, hl, List.take_nil]
end Go.Proofs.G11
