/- An abstract machine for the part of Go that this program uses: a region whose order is open: one walk in the text's order serves every order. -/
import Derived.Test.YtjkpoaijmbapiaaGreatDoorAmSound
namespace Go.Am
set_option linter.all false
open Go Go.RowKit

/-! What an operation reads. -/

def Arg.slots : Arg → List Nat
  | .t s => [s]
  | _ => []

def optSlots : Option Arg → List Nat
  | none => []
  | some a => a.slots

def IOp.slots : IOp → List Nat
  | .fn _ xs => xs.flatMap Arg.slots
  | .lazy d => [d]
  | .mov x | .same x | .box x | .load _ x | .nilCheck x | .un _ x | .conv _ x | .bytesStr x | .field _ _ x | .fieldAddr _ _ x | .makeSlice _ _ _ x _ | .makeIface _ x | .extract x _ | .len _ x | .freeze _ x | .clear _ _ x => x.slots
  | .pick c a b => c.slots ++ a.slots ++ b.slots
  | .new _ | .tipNew _ | .makeMap | .never => []
  | .build _ ps | .buildT _ _ _ ps => ps.flatMap fun p => p.2.2.slots
  | .buildSlice _ _ _ ps _ => ps.flatMap fun p => p.2.slots
  | .store _ a x | .bin _ a x | .eqv _ _ a x | .indexAddr _ a x | .indexAddrA _ _ a x | .index _ a x | .lookup _ _ _ a x | .append _ _ a x _ | .max2 a x | .min2 a x | .delete a x => a.slots ++ x.slots
  | .slice _ x lo hi => x.slots ++ optSlots lo ++ optSlots hi
  | .mapUpdate _ a b c => a.slots ++ b.slots ++ c.slots
  | .makeFunc _ xs ys => (xs.flatMap Arg.slots) ++ ys.flatMap Arg.slots
  | .call g xs _ => g.slots ++ xs.flatMap Arg.slots
  | .callP g xs => g.slots ++ xs.flatMap Arg.slots

theorem arg_congr {L L' : Env} {x : Arg} (h : ∀ t ∈ x.slots, L.get t = L'.get t) : x.ev L = x.ev L' := by
  cases x with
  | t s => exact h s (by simp [Arg.slots])
  | k v => rfl
  | f g => rfl

theorem args_congr {L L' : Env} : ∀ {xs : List Arg}, (∀ t ∈ xs.flatMap Arg.slots, L.get t = L'.get t) → evArgs L xs = evArgs L' xs := by
  intro xs
  induction xs with
  | nil => intro _; rfl
  | cons x xs ih =>
    intro h
    simp only [List.flatMap_cons, List.mem_append] at h
    simp only [evArgs]
    rw [arg_congr (fun t ht => h t (.inl ht)), ih (fun t ht => h t (.inr ht))]

theorem partArgs_congr {L L' : Env} : ∀ {xs : List (Nat × Nat × Arg)}, (∀ t ∈ xs.flatMap (fun p => p.2.2.slots), L.get t = L'.get t) → partArgs L xs = partArgs L' xs := by
  intro xs
  induction xs with
  | nil => intro _; rfl
  | cons x xs ih =>
    intro h
    obtain ⟨a, b, x⟩ := x
    simp only [List.flatMap_cons, List.mem_append] at h
    simp only [partArgs]
    rw [arg_congr (fun t ht => h t (.inl ht)), ih (fun t ht => h t (.inr ht))]

theorem elemArgs_congr {L L' : Env} {k : Nat} : ∀ {xs : List (Nat × Arg)}, (∀ t ∈ xs.flatMap (fun p => p.2.slots), L.get t = L'.get t) → elemArgs L k xs = elemArgs L' k xs := by
  intro xs
  induction xs with
  | nil => intro _; rfl
  | cons x xs ih =>
    intro h
    obtain ⟨a, x⟩ := x
    simp only [List.flatMap_cons, List.mem_append] at h
    simp only [elemArgs]
    rw [arg_congr (fun t ht => h t (.inl ht)), ih (fun t ht => h t (.inr ht))]

theorem opt_congr {L L' : Env} {x : Option Arg} (h : ∀ t ∈ optSlots x, L.get t = L'.get t) : optArg L x = optArg L' x := by
  cases x with
  | none => rfl
  | some a => simp only [optArg]; rw [arg_congr h]

theorem evOp_congr {call : Nat → List AV → Mem → Option (AV × Mem)} {L L' : Env} {M : Mem} {o : IOp} (h : ∀ t ∈ o.slots, L.get t = L'.get t) : evOp call L M o = evOp call L' M o := by
  cases o <;> simp only [IOp.slots, List.mem_append] at h <;> simp only [evOp]
  case pick c a b =>
    rw [arg_congr (x := c) (fun t ht => h t (.inl (.inl ht)))]
    cases c.ev L' with
    | none => rfl
    | some v =>
      cases v <;> try rfl
      rename_i t
      cases t
      · simp only [Bool.false_eq_true, if_false]; rw [arg_congr (x := b) (fun t ht => h t (.inr ht))]
      · simp only [if_true]; rw [arg_congr (x := a) (fun t ht => h t (.inl (.inr ht)))]
  case build z ps => rw [partArgs_congr h]
  case buildT z i k ps => rw [partArgs_congr h]
  case buildSlice k z n ps b => rw [elemArgs_congr h]
  case slice k x lo hi => rw [arg_congr (fun t ht => h t (.inl (.inl ht))), opt_congr (x := lo) (fun t ht => h t (.inl (.inr ht))), opt_congr (x := hi) (fun t ht => h t (.inr ht))]
  case mapUpdate q a b c => rw [arg_congr (x := a) (fun t ht => h t (.inl (.inl ht))), arg_congr (x := b) (fun t ht => h t (.inl (.inr ht))), arg_congr (x := c) (fun t ht => h t (.inr ht))]
  case makeFunc g xs ys => rw [args_congr (xs := xs) (fun t ht => h t (.inl ht)), args_congr (xs := ys) (fun t ht => h t (.inr ht))]
  case call g xs b => rw [arg_congr (fun t ht => h t (.inl ht)), args_congr (fun t ht => h t (.inr ht))]
  case fn o xs => rw [args_congr h]
  case lazy d => rw [h d (by simp)]
  case callP g xs => rw [arg_congr (fun t ht => h t (.inl ht)), args_congr (fun t ht => h t (.inr ht))]
  all_goals first
    | rfl
    | rw [arg_congr h]
    | (rename_i a x; rw [arg_congr (x := a) (fun t ht => h t (.inl ht)), arg_congr (x := x) (fun t ht => h t (.inr ht))])
    | (rename_i a x _; rw [arg_congr (x := a) (fun t ht => h t (.inl ht)), arg_congr (x := x) (fun t ht => h t (.inr ht))])

theorem aFn_pure {M M1 : Mem} (M2 : Mem) {v : AV} {o : FOp} {vs : List AV} (he : o.isEff = false) (h : aFn o vs M = some (v, M1)) : M1 = M ∧ (o.looks = false → aFn o vs M2 = some (v, M2)) := by
  have val : ∀ {x : Option AV}, valF x M = some (v, M1) → M1 = M ∧ (o.looks = false → valF x M2 = some (v, M2)) := fun {x} h => by
    cases x with
    | none => cases h
    | some u => simp only [valF, Option.some.injEq, Prod.mk.injEq] at h ⊢; exact ⟨h.2.symm, fun _ => ⟨h.1, trivial⟩⟩
  have val2 : ∀ {x : Option AV}, valF x M = some (v, M1) → M1 = M := fun {x} h => (val h).1
  unfold aFn at h
  split at h
  all_goals first
    | (cases h; done)
    | exact val h
    | (simp only [FOp.isEff] at he; cases he; done)
    | (simp only [Option.some.injEq, Prod.mk.injEq] at h; exact ⟨h.2.symm, fun _ => by rw [← h.1]; rfl⟩)
    | exact ⟨val2 h, fun hl => by simp only [FOp.looks] at hl; cases hl⟩

theorem evOp_same {call : Nat → List AV → Mem → Option (AV × Mem)} {L : Env} {M M1 : Mem} {v : AV} {o : IOp} (he : o.isEff = false) (h : evOp call L M o = some (v, M1)) : M1 = M := by
  cases o <;> simp only [IOp.isEff] at he <;> first | (cases he; done) | skip
  all_goals
    simp only [evOp] at h
    repeat' split at h
  all_goals first
    | (cases h; done)
    | (simp only [Option.some.injEq, Prod.mk.injEq] at h; exact h.2.symm)
    | exact (aFn_pure M he h).1
    | (rename_i hb; rw [he] at hb; cases hb)
    | (simp only [he, Bool.false_eq_true, if_false, Option.some.injEq, Prod.mk.injEq] at h; exact h.2.symm)

theorem evOp_pure {call : Nat → List AV → Mem → Option (AV × Mem)} {L : Env} {M M1 M2 : Mem} {v : AV} {o : IOp} (he : o.isEff = false) (hl : o.looks = false) (h : evOp call L M o = some (v, M1)) : evOp call L M2 o = some (v, M2) := by
  cases o <;> simp only [IOp.isEff] at he <;> simp only [IOp.looks] at hl <;> first | (cases he; done) | (cases hl; done) | skip
  all_goals
    simp only [evOp] at h ⊢
    repeat' split at h
  all_goals first
    | (cases h; done)
    | exact (aFn_pure M2 he h).2 hl
    | (simp_all; done)
    | (rename_i hb; rw [he] at hb; cases hb)
    | skip
  all_goals first | (simp only [aIndexAddr] at *; simp_all; done) | skip
  all_goals (rename_i hn; simp only [Option.some.injEq, Prod.mk.injEq] at h; rw [if_neg hn, h.1])

mutual
theorem beq_eq : ∀ (x y : AV), AV.beq x y = true → x = y
  | .bool a, .bool b, h => by simp only [AV.beq] at h; rw [show a = b by simpa using h]
  | .int k a, .int k' b, h => by simp only [AV.beq, Bool.and_eq_true, decide_eq_true_eq] at h; rw [h.1, h.2]
  | .str a, .str b, h => by
    simp only [AV.beq, decide_eq_true_eq] at h
    have : a = b := by
      cases a; cases b
      simp only [ByteArray.mk.injEq]
      exact Array.toList_inj.1 h
    rw [this]
  | .list g k xs, .list g' k' ys, h => by simp only [AV.beq, Bool.and_eq_true, decide_eq_true_eq] at h; rw [h.1.1, h.1.2, beqs_eq xs ys h.2]
  | .ref a b c d, .ref a' b' c' d', h => by simp only [AV.beq, Bool.and_eq_true, decide_eq_true_eq] at h; rw [h.1.1.1, h.1.1.2, h.1.2, h.2]
  | .ptr a b c, .ptr a' b' c', h => by simp only [AV.beq, Bool.and_eq_true, decide_eq_true_eq] at h; rw [h.1.1, h.1.2, h.2]
  | .cptr x, .cptr y, h => by simp only [AV.beq] at h; rw [beq_eq x y h]
  | .nilptr, .nilptr, _ => rfl
  | .map a, .map b, h => by simp only [AV.beq, decide_eq_true_eq] at h; rw [h]
  | .nilmap, .nilmap, _ => rfl
  | .func g xs ys, .func g' xs' ys', h => by simp only [AV.beq, Bool.and_eq_true, decide_eq_true_eq] at h; rw [h.1.1, beqs_eq xs xs' h.1.2, beqs_eq ys ys' h.2]
  | .nilfunc, .nilfunc, _ => rfl
  | .yield a, .yield b, h => by simp only [AV.beq, decide_eq_true_eq] at h; rw [h]
  | .iface t x, .iface t' y, h => by simp only [AV.beq, Bool.and_eq_true, decide_eq_true_eq] at h; rw [h.1, beq_eq x y h.2]
  | .niliface, .niliface, _ => rfl
  | .agg xs, .agg ys, h => by simp only [AV.beq] at h; rw [beqs_eq xs ys h]
  | .tuple xs, .tuple ys, h => by simp only [AV.beq] at h; rw [beqs_eq xs ys h]
theorem beqs_eq : ∀ (xs ys : List AV), AV.beqs xs ys = true → xs = ys
  | [], [], _ => rfl
  | x :: xs, y :: ys, h => by simp only [AV.beqs, Bool.and_eq_true] at h; rw [beq_eq x y h.1, beqs_eq xs ys h.2]
end

/-! The walk in the text's order. -/

def effCount (is : List (IOper × Nat × Nat)) : Nat := (is.filter fun p => p.1.op.isEff).length

/-- The environment behind the chosen operations, in the text's order. -/
def envS (S : Nat → Bool) : Nat → List (Option Nat × AV) → Env → Env
  | _, [], L => L
  | k, (d, v) :: rest, L => envS S (k + 1) rest (if S k then pushL d v L else L)

def entries (is : List (IOper × Nat × Nat)) (tr : List (Env × AV × Bool)) : List (Option Nat × AV) := (is.zip tr).map fun p => (p.1.1.dst, p.2.2.1)

theorem pushL_get {d : Option Nat} {v : AV} {L : Env} {t : Nat} : (pushL d v L).get t = if d = some t then some v else L.get t := by
  cases d with
  | none => simp [pushL]
  | some d => simp [pushL, Env.get]

theorem envS_congr {S S' : Nat → Bool} {t : Nat} : ∀ (es : List (Option Nat × AV)) (k : Nat) (L L' : Env), L.get t = L'.get t → (∀ j v, es[j]? = some (some t, v) → S (k + j) = S' (k + j)) → (envS S k es L).get t = (envS S' k es L').get t := by
  intro es
  induction es with
  | nil => intro k L L' h _; exact h
  | cons e es ih =>
    intro k L L' h hS
    obtain ⟨d, v⟩ := e
    simp only [envS]
    refine ih (k + 1) _ _ ?_ fun j v hj => by
      have := hS (j + 1) v (by simpa using hj)
      rw [show k + 1 + j = k + (j + 1) by omega]; exact this
    by_cases hd : d = some t
    · subst hd
      have := hS 0 v rfl
      simp only [Nat.add_zero] at this
      rw [this]
      cases S' k
      · simpa using h
      · simp [pushL_get]
    · have e1 : ∀ (b : Bool) (L : Env), (if b then pushL d v L else L).get t = L.get t := fun b L => by cases b <;> simp [pushL_get, hd]
      rw [e1, e1]; exact h

theorem envS_none {S : Nat → Bool} {t : Nat} : ∀ (es : List (Option Nat × AV)) (k : Nat) (L : Env), (∀ j v, es[j]? = some (some t, v) → S (k + j) = false) → (envS S k es L).get t = L.get t := by
  intro es
  induction es with
  | nil => intro k L _; rfl
  | cons e es ih =>
    intro k L hS
    obtain ⟨d, v⟩ := e
    simp only [envS]
    rw [ih (k + 1) _ fun j v hj => by
      have := hS (j + 1) v (by simpa using hj)
      rw [show k + 1 + j = k + (j + 1) by omega]; exact this]
    by_cases hd : d = some t
    · subst hd
      have := hS 0 v rfl
      simp only [Nat.add_zero] at this
      rw [this]; rfl
    · cases S k <;> simp [pushL_get, hd]

theorem envS_last {S : Nat → Bool} {t : Nat} {v : AV} : ∀ (es : List (Option Nat × AV)) (k i : Nat) (L : Env), es[i]? = some (some t, v) → S (k + i) = true → (∀ j u, i < j → es[j]? = some (some t, u) → S (k + j) = false) → (envS S k es L).get t = some v := by
  intro es
  induction es with
  | nil => intro k i L h; simp at h
  | cons e es ih =>
    intro k i L h hS hj
    obtain ⟨d, u⟩ := e
    simp only [envS]
    cases i with
    | zero =>
      simp only [List.getElem?_cons_zero, Option.some.injEq, Prod.mk.injEq] at h
      obtain ⟨rfl, rfl⟩ := h
      simp only [Nat.add_zero] at hS
      rw [hS, envS_none es (k + 1) _ fun j u hu => by
        have := hj (j + 1) u (by omega) (by simpa using hu)
        rw [show k + 1 + j = k + (j + 1) by omega]; exact this]
      simp [pushL_get]
    | succ i =>
      refine ih (k + 1) i _ (by simpa using h) (by rw [show k + 1 + i = k + (i + 1) by omega]; exact hS) fun j u hlt hu => by
        have := hj (j + 1) u (by omega) (by simpa using hu)
        rw [show k + 1 + j = k + (j + 1) by omega]; exact this

/-- What the walk in the text's order met. -/
abbrev TraceFacts (call : Nat → List AV → Mem → Option (AV × Mem)) (is : List (IOper × Nat × Nat)) (L : Env) (ms : List Mem) (L' : Env) (M' : Mem) (ms' : List Mem) (tr : List (Env × AV × Bool)) (b : Nat) : Prop :=
    tr.length = is.length ∧ ms'[b + effCount is]? = some M' ∧ (∀ k, k ≤ b → ms'[k]? = ms[k]?) ∧ ms'.length = ms.length + effCount is ∧
    (∀ q, L' = envS (fun _ => true) q (entries is tr) L) ∧
    ∀ (i : Nat) (p : IOper × Nat × Nat) (Li : Env) (v : AV) (ran : Bool), is[i]? = some p → tr[i]? = some (Li, v, ran) →
      guardOk Li p.1.guard = some ran ∧ (∀ q, Li = envS (fun j => decide (j < q + i)) q (entries is tr) L) ∧ (ran = false → v = .tuple []) ∧
      ∃ Mi Mi1, ms'[b + effCount (is.take i)]? = some Mi ∧ ms'[b + effCount (is.take (i + 1))]? = some Mi1 ∧ (ran = false → Mi1 = Mi) ∧ (ran = true → evOp call Li Mi p.1.op = some (v, Mi1))

theorem trace_facts {call : Nat → List AV → Mem → Option (AV × Mem)} : ∀ (is : List (IOper × Nat × Nat)) (L : Env) (M : Mem) (ms : List Mem) (L' : Env) (M' : Mem) (ms' : List Mem) (tr : List (Env × AV × Bool)) (b : Nat),
    ms.length = b + 1 → ms[b]? = some M → evOpsD call is L M ms = some (L', M', ms', tr) → TraceFacts call is L ms L' M' ms' tr b := by
  intro is
  induction is with
  | nil =>
    intro L M ms L' M' ms' tr b hb hM h
    simp only [evOpsD, Option.some.injEq, Prod.mk.injEq] at h
    obtain ⟨rfl, rfl, rfl, rfl⟩ := h
    exact ⟨rfl, by simpa [effCount] using hM, fun _ _ => rfl, by simp [effCount], fun _ => rfl, fun i p Li v ran hi => by simp at hi⟩
  | cons x is ih =>
    intro L M ms L' M' ms' tr b hb hM h
    obtain ⟨o, rg⟩ := x
    -- one step, whether it ran or not
    have step : ∀ (v : AV) (M1 : Mem) (ran : Bool) (tr1 : List (Env × AV × Bool)), guardOk L o.guard = some ran → (ran = false → v = .tuple [] ∧ M1 = M) → (ran = true → evOp call L M o.op = some (v, M1)) →
        evOpsD call is (pushL o.dst v L) M1 (if o.op.isEff then ms ++ [M1] else ms) = some (L', M', ms', tr1) → tr = (L, v, ran) :: tr1 → TraceFacts call ((o, rg) :: is) L ms L' M' ms' tr b := by
      intro v M1 ran tr1 hg hskip hran hrest htr
      subst htr
      have hM1 : o.op.isEff = false → M1 = M := fun he => by
        cases ran with
        | false => exact (hskip rfl).2
        | true => exact evOp_same he (hran rfl)
      have key := ih (pushL o.dst v L) M1 (if o.op.isEff then ms ++ [M1] else ms) L' M' ms' tr1 (if o.op.isEff then b + 1 else b)
        (by cases o.op.isEff <;> simp [hb]) (by
          cases he : o.op.isEff with
          | false => simp only [Bool.false_eq_true, if_false]; rw [hM1 he]; exact hM
          | true => simp only [if_true]; rw [List.getElem?_append_right (by omega), hb]; simp) hrest
      obtain ⟨k1, k2, k3, k4, k5, k6⟩ := key
      have ec : ∀ l, effCount ((o, rg) :: l) = (if o.op.isEff then 1 else 0) + effCount l := fun l => by
        simp only [effCount, List.filter_cons]
        cases o.op.isEff <;> simp [Nat.add_comm]
      have hold : ∀ k, k ≤ b → ms'[k]? = ms[k]? := fun k hk => by
        rw [k3 k (by split <;> omega)]
        cases o.op.isEff
        · rfl
        · simp only [if_true]; exact List.getElem?_append_left (by omega)
      refine ⟨by simp [k1], ?_, hold, ?_, fun q => ?_, fun i p Li u rn hi ht => ?_⟩
      · rw [ec]
        have : b + ((if o.op.isEff then 1 else 0) + effCount is) = (if o.op.isEff then b + 1 else b) + effCount is := by split <;> omega
        rw [this]; exact k2
      · rw [k4, ec]
        cases o.op.isEff <;> simp; omega
      · have := k5 (q + 1)
        simp only [entries, List.zip_cons_cons, List.map_cons, envS, if_true]
        exact this
      · cases i with
        | zero =>
          simp only [List.getElem?_cons_zero, Option.some.injEq, Prod.mk.injEq] at hi ht
          subst hi
          obtain ⟨rfl, rfl, rfl⟩ := ht
          refine ⟨hg, fun q => ?_, fun hr => (hskip hr).1, M, M1, ?_, ?_, fun hr => (hskip hr).2, fun hr => hran hr⟩
          · have none : ∀ (es : List (Option Nat × AV)) (k : Nat) (L : Env), q ≤ k → envS (fun j => decide (j < q + 0)) k es L = L := by
              intro es
              induction es with
              | nil => intro k L _; rfl
              | cons e es ih =>
                intro k L hk
                obtain ⟨d, v⟩ := e
                simp only [envS]
                rw [if_neg (by simp; omega)]
                exact ih (k + 1) L (by omega)
            exact (none _ q L (Nat.le_refl _)).symm
          · simp only [List.take_zero, effCount, List.filter_nil, List.length_nil, Nat.add_zero]
            rw [hold b (Nat.le_refl _)]; exact hM
          · simp only [List.take_succ_cons, List.take_zero]
            rw [ec]
            simp only [effCount, List.filter_nil, List.length_nil, Nat.add_zero]
            cases he : o.op.isEff with
            | false => simp only [Bool.false_eq_true, if_false, Nat.add_zero]; rw [hold b (Nat.le_refl _), hM1 he]; exact hM
            | true =>
              simp only [if_true]
              rw [k3 (b + 1) (by rw [he]; simp), he]
              simp only [if_true]
              rw [List.getElem?_append_right (by omega), hb]; simp
        | succ i =>
          simp only [List.getElem?_cons_succ] at hi ht
          obtain ⟨q1, q2, q3, Mi, Mi1, q4, q5, q6, q7⟩ := k6 i p Li u rn hi ht
          refine ⟨q1, fun q => ?_, q3, Mi, Mi1, ?_, ?_, q6, q7⟩
          · have := q2 (q + 1)
            simp only [entries, List.zip_cons_cons, List.map_cons, envS]
            rw [if_pos (by simp)]
            rw [this]
            simp only [entries, show q + 1 + i = q + (i + 1) by omega]
          · simp only [List.take_succ_cons]
            rw [ec]
            have : b + ((if o.op.isEff then 1 else 0) + effCount (is.take i)) = (if o.op.isEff then b + 1 else b) + effCount (is.take i) := by split <;> omega
            rw [this]; exact q4
          · simp only [List.take_succ_cons]
            rw [ec]
            have : b + ((if o.op.isEff then 1 else 0) + effCount (is.take (i + 1))) = (if o.op.isEff then b + 1 else b) + effCount (is.take (i + 1)) := by split <;> omega
            rw [this]; exact q5
    simp only [evOpsD] at h
    split at h
    · cases h
    · rename_i hg
      split at h
      · cases h
      · rename_i h1
        simp only [Option.some.injEq, Prod.mk.injEq] at h
        obtain ⟨rfl, rfl, rfl, rfl⟩ := h
        exact step (.tuple []) M false _ hg (fun _ => ⟨rfl, rfl⟩) (fun e => by cases e) h1 rfl
    · rename_i hg
      split at h
      · cases h
      · rename_i v M1 he
        split at h
        · cases h
        · rename_i h1
          simp only [Option.some.injEq, Prod.mk.injEq] at h
          obtain ⟨rfl, rfl, rfl, rfl⟩ := h
          exact step v M1 true _ hg (fun e => by cases e) (fun _ => he) h1 rfl

theorem stays_at {call : Nat → List AV → Mem → Option (AV × Mem)} {op : IOp} {L : Env} {v : AV} {ms : List Mem} : ∀ (n lo k : Nat), stays call op L v ms lo n = true → lo ≤ k → k < lo + n → ∃ m m', ms[k]? = some m ∧ evOp call L m op = some (v, m') := by
  intro n
  induction n with
  | zero => intro lo k _ h1 h2; omega
  | succ n ih =>
    intro lo k h h1 h2
    simp only [stays, Bool.and_eq_true] at h
    by_cases e : k = lo
    · subst e
      have h3 := h.1
      split at h3
      · cases h3
      · rename_i m hm
        split at h3
        · cases h3
        · rename_i u m' he
          have := beq_eq u v h3
          subst this
          exact ⟨m, m', hm, he⟩
    · exact ih (lo + 1) k h.2 (by omega) (by omega)

theorem stayAll_at {call : Nat → List AV → Mem → Option (AV × Mem)} {ms : List Mem} : ∀ (is : List (IOper × Nat × Nat)) (tr : List (Env × AV × Bool)) (i : Nat) (p : IOper × Nat × Nat) (L : Env) (v : AV), stayAll call ms is tr = true → is[i]? = some p → tr[i]? = some (L, v, true) → p.1.op.looks = true →
    stays call p.1.op L v ms p.2.1 p.2.2 = true := by
  intro is
  induction is with
  | nil => intro tr i p L v _ h; simp at h
  | cons x is ih =>
    intro tr i p L v h hi ht hl
    cases tr with
    | nil => simp at ht
    | cons y tr =>
      obtain ⟨o, lo, n⟩ := x
      obtain ⟨L0, v0, ran⟩ := y
      simp only [stayAll, Bool.and_eq_true] at h
      cases i with
      | zero =>
        simp only [List.getElem?_cons_zero, Option.some.injEq, Prod.mk.injEq] at hi ht
        subst hi
        obtain ⟨rfl, rfl, rfl⟩ := ht
        have := h.1
        simp only at hl
        simpa [hl] using this
      | succ i => exact ih tr i p L v h.2 (by simpa using hi) (by simpa using ht) hl

/-! What must stand ahead of what. -/

def edgeBits (o : Oper) (acc : List Nat) : Nat :=
  o.after.toList.foldl (fun s e => if Region.binds .any e then s ||| 2 ^ e.on ||| acc.getD e.on 0 else s) 0

def befsAux : List Oper → List Nat → List Nat
  | [], acc => acc
  | o :: os, acc => befsAux os (acc ++ [edgeBits o acc])

def befs (os : List Oper) : List Nat := befsAux os []

theorem befsAux_get : ∀ (os : List Oper) (acc : List Nat) (i : Nat), (i < acc.length → (befsAux os acc)[i]? = acc[i]?) ∧
    (∀ o, os[i]? = some o → (befsAux os acc)[acc.length + i]? = some (edgeBits o ((befsAux os acc).take (acc.length + i)))) := by
  intro os
  induction os with
  | nil => intro acc i; exact ⟨fun _ => rfl, fun o h => by simp at h⟩
  | cons x os ih =>
    intro acc i
    simp only [befsAux]
    refine ⟨fun h => ?_, fun o h => ?_⟩
    · rw [(ih (acc ++ [edgeBits x acc]) i).1 (by simp; omega)]
      exact List.getElem?_append_left h
    · cases i with
      | zero =>
        simp only [List.getElem?_cons_zero, Option.some.injEq] at h
        subst h
        have h1 := (ih (acc ++ [edgeBits x acc]) acc.length).1 (by simp)
        rw [Nat.add_zero, h1, List.getElem?_append_right (Nat.le_refl _), Nat.sub_self]
        simp only [List.getElem?_cons_zero, Option.some.injEq]
        congr 1
        -- what was reckoned before stays
        apply List.ext_getElem?
        intro j
        rw [List.getElem?_take]
        split
        · rename_i hj
          rw [(ih (acc ++ [edgeBits x acc]) j).1 (by simp; omega), List.getElem?_append_left hj]
        · rename_i hj
          exact List.getElem?_eq_none (by omega)
      | succ i =>
        have := (ih (acc ++ [edgeBits x acc]) i).2 o (by simpa using h)
        simp only [List.length_append, List.length_cons, List.length_nil] at this
        rw [show acc.length + (i + 1) = acc.length + (0 + 1) + i by omega]
        exact this

theorem foldl_bits (acc : List Nat) (j : Nat) : ∀ (es : List Edge) (z : Nat), (es.foldl (fun s e => if Region.binds .any e then s ||| 2 ^ e.on ||| acc.getD e.on 0 else s) z).testBit j = true →
    z.testBit j = true ∨ ∃ e ∈ es, Region.binds .any e = true ∧ (e.on = j ∨ (acc.getD e.on 0).testBit j = true) := by
  intro es
  induction es with
  | nil => intro z h; exact .inl h
  | cons e es ih =>
    intro z h
    simp only [List.foldl_cons] at h
    rcases ih _ h with h1 | ⟨e', h1, h2, h3⟩
    · split at h1
      · rename_i hb
        simp only [Nat.testBit_or, Bool.or_eq_true] at h1
        rcases h1 with (h1 | h1) | h1
        · exact .inl h1
        · right
          refine ⟨e, List.mem_cons_self, hb, .inl ?_⟩
          rw [Nat.testBit_two_pow] at h1
          simpa using h1
        · exact .inr ⟨e, List.mem_cons_self, hb, .inr h1⟩
      · exact .inl h1
    · exact .inr ⟨e', List.mem_cons_of_mem _ h1, h2, h3⟩

/-- What stands ahead of an operation that may come up has been. -/
theorem befs_closed {os : List Oper} {S : Nat → Bool} (hS : ∀ j o, os[j]? = some o → S j = true → ∀ e ∈ o.after.toList, Region.binds .any e = true → S e.on = true) :
    ∀ (i : Nat) (o : Oper), os[i]? = some o → (∀ e ∈ o.after.toList, Region.binds .any e = true → S e.on = true) → ∀ j, ((befs os).getD i 0).testBit j = true → S j = true := by
  intro i
  induction i using Nat.strongRecOn with
  | _ i ih =>
    intro o ho he j hj
    have h1 := (befsAux_get os [] i).2 o ho
    simp only [List.length_nil, Nat.zero_add] at h1
    have h2 : (befs os).getD i 0 = edgeBits o ((befs os).take i) := by
      unfold befs
      rw [List.getD_eq_getElem?_getD, h1]
      rfl
    rw [h2] at hj
    rcases foldl_bits _ j _ _ hj with h3 | ⟨e, h3, h4, h5⟩
    · simp at h3
    · have hon := he e h3 h4
      rcases h5 with rfl | h5
      · exact hon
      · by_cases hlt : e.on < i
        · have hget : ((befs os).take i).getD e.on 0 = (befs os).getD e.on 0 := by
            rw [List.getD_eq_getElem?_getD, List.getD_eq_getElem?_getD, List.getElem?_take, if_pos hlt]
          rw [hget] at h5
          have hlen : e.on < os.length := by have := (List.getElem?_eq_some_iff.1 ho).1; omega
          exact ih e.on hlt os[e.on] (List.getElem?_eq_getElem hlen) (fun e' he' hb' => hS e.on _ (List.getElem?_eq_getElem hlen) hon e' he' hb') j h5
        · rw [List.getD_eq_getElem?_getD, List.getElem?_take, if_neg hlt] at h5
          simp at h5

def IOper.reads (o : IOper) : List Nat := o.op.slots ++ (match o.guard with | none => [] | some (t, _) => [t])

def meets (a b : IOper) : Bool :=
  (match a.dst with | none => false | some t => b.reads.contains t || decide (b.dst = some t)) || (match b.dst with | none => false | some t => a.reads.contains t)

/-! Variables whose blocks are laid in any order: the machine lays them where they are first written. -/

/-- How many cells a zero value has. -/
def zeroSz (P : Program) (t : TypeId) (k : Nat) : Bool :=
  match P.info? t with
  | some i => match i.zero with
    | some z => z.cells.size == k
    | none => false
  | none => false

def okLazy (nt : Nat) (o : Oper) (p : IOper) : Bool :=
  match o.op, o.dst, p.op with
  | .alloc _, some d, .lazy d' => d == d' && decide (d < nt) && p.dst.isNone && o.guard.isNone && p.guard.isNone
  | _, _, _ => false

def okBirth (P : Program) (nt : Nat) (o : Oper) (p : IOper) : Bool :=
  match o.op, p.op, p.dst with
  | .store t (.tmp d) y, .fn (.birth k) [x], some d' => d == d' && decide (d < nt) && o.dst.isNone && okSize P t k && zeroSz P t k && okArg y x && o.guard.isNone && p.guard.isNone
  | _, _, _ => false

def isLazy (d : Nat) : IOp → Bool
  | .lazy d' => d' == d
  | _ => false

def isBirth (d : Nat) (p : IOper) : Bool :=
  match p.op with
  | .fn (.birth _) _ => p.dst == some d
  | _ => false

/-- The type of a variable that is laid, of one that is written. -/
def allocT (o : Oper) : Option TypeId := match o.op with | .alloc t => some t | _ => none
def storeT (o : Oper) : Option TypeId := match o.op with | .store t _ _ => some t | _ => none

def okZ1 (ops : Array Oper) (is : List (IOper × Nat × Nat)) (p : IOper) (i : Nat) : Bool :=
  match p.op, p.dst with
  | .lazy d, _ => (is.zipIdx.any fun q => isBirth d q.1.1) && (ops.toList.zipIdx.all fun o => decide (o.2 = i) || decide (o.1.dst ≠ some d))
  | .fn (.birth _) _, some d => (is.zipIdx.all fun q => decide (q.2 = i) || !isBirth d q.1.1) &&
      (is.zipIdx.any fun q => isLazy d q.1.1.op && decide ((ops[q.2]?).bind allocT = (ops[i]?).bind storeT) && ((befs ops.toList).getD i 0).testBit q.2)
  | .fn (.birth _) _, none => false
  | _, _ => true

def okOpersZ (P : Program) (nt : Nat) (ops : Array Oper) : List Oper → List IOper → Bool
  | [], [] => true
  | o :: os, i :: is => (okOper P nt ops o i || okLazy nt o i || okBirth P nt o i) && okOpersZ P nt ops os is
  | _, _ => false

def okD (P : Program) (nt : Nat) (ops : Array Oper) (is : List (IOper × Nat × Nat)) : Bool :=
  okOpersZ P nt ops ops.toList (is.map (·.1)) && (is.zipIdx.all fun q => okZ1 ops is q.1.1 q.2) &&
  (ops.toList.zipIdx.all fun p => p.1.after.toList.all fun e => !Region.binds .any e || decide (e.on < p.2)) &&
  (is.zipIdx.all fun q => is.zipIdx.all fun p =>
    (!decide (p.2 < q.2) || ((!(p.1.1.op.isEff && q.1.1.op.isEff) || ((befs ops.toList).getD q.2 0).testBit p.2) && (!(meets p.1.1 q.1.1) || ((befs ops.toList).getD q.2 0).testBit p.2))) &&
    (!q.1.1.op.looks || (decide (q.1.2.1 ≤ effCount (is.take q.2)) && decide (effCount (is.take q.2) < q.1.2.1 + q.1.2.2))) &&
    (!(q.1.1.op.looks && p.1.1.op.isEff) || ((!decide (effCount (is.take p.2) < q.1.2.1) || ((befs ops.toList).getD q.2 0).testBit p.2) && (!decide (q.1.2.1 + q.1.2.2 ≤ effCount (is.take p.2) + 1) || ((befs ops.toList).getD p.2 0).testBit q.2))))

end Go.Am
