/- An abstract machine for the part of Go that this program uses: a region whose effects may come in any order: every order is walked, each by itself; what is proved of the end of each holds of the run. -/
import Derived.Test.YtdddcofggemnkaaAmIn
import Derived.Test.YtdddcofggemnkaaAmK
namespace Go.Am
set_option linter.all false
open Go Go.RowKit

/-- Is the region marked: its order is to be walked as a tree? -/
def isX (is : List (IOper × Nat × Nat)) : Bool := is.any fun p => p.2.2 == 1000001

/-- Who may come up: what stands ahead of it (a number's bits) has been. -/
def freeX (n done m : Nat) : Bool := (List.range n).all fun j => !m.testBit j || done.testBit j

def readyX (is : List (IOper × Nat × Nat)) (done : Nat) : List Nat :=
  (List.range is.length).filter fun i => !done.testBit i && ((is[i]?).map fun p => freeX is.length done p.2.1).getD false

section
variable (call : Nat → List AV → Mem → Option (AV × Mem))

/-- Whatever order the operations come in, what is asked for holds behind them. -/
def Tree (is : List (IOper × Nat × Nat)) (Q : Env → Mem → Prop) : Nat → Nat → Env → Mem → Prop
  | 0, done, L, M => readyX is done = [] ∧ Q L M
  | fuel + 1, done, L, M => (readyX is done = [] → Q L M) ∧ ∀ i ∈ readyX is done, ∃ p v M', is[i]? = some p ∧ evOp call L M p.1.op = some (v, M') ∧ Tree is Q fuel (done ||| 2 ^ i) (pushL p.1.dst v L) M'
end

def edgeB (o : Oper) : Nat := o.after.toList.foldl (fun s e => if Region.binds .any e then s ||| 2 ^ e.on else s) 0

theorem edgeB_aux (j : Nat) : ∀ (es : List Edge) (z : Nat), (es.foldl (fun s e => if Region.binds .any e then s ||| 2 ^ e.on else s) z).testBit j = true ↔ z.testBit j = true ∨ ∃ e ∈ es, Region.binds .any e = true ∧ e.on = j := by
  intro es
  induction es with
  | nil => intro z; simp
  | cons e es ih =>
    intro z
    simp only [List.foldl_cons]
    rw [ih]
    cases hb : Region.binds .any e with
    | false =>
      simp only [Bool.false_eq_true, if_false, List.mem_cons, exists_eq_or_imp, hb, false_and, false_or]
    | true =>
      simp only [if_true, Nat.testBit_or, Nat.testBit_two_pow, Bool.or_eq_true, decide_eq_true_eq, List.mem_cons, exists_eq_or_imp, hb, true_and]
      exact or_assoc

theorem edgeB_bit {o : Oper} {j : Nat} : (edgeB o).testBit j = true ↔ ∃ e ∈ o.after.toList, Region.binds .any e = true ∧ e.on = j := by
  unfold edgeB
  rw [edgeB_aux]
  simp

def okT (P : Program) (nt : Nat) (ops : Array Oper) (is : List (IOper × Nat × Nat)) : Bool :=
  okOpers P nt ops ops.toList (is.map (·.1)) && (is.all fun p => p.1.guard.isNone) &&
  ((ops.toList.zip is).all fun q => decide (q.2.2.1 = edgeB q.1) && q.1.after.toList.all fun e => !Region.binds .any e || decide (e.on < is.length))

section
variable {P : Program} {w0 : Base} {call : Nat → List AV → Mem → Option (AV × Mem)}

theorem okT_parts {nt : Nat} {ops : Array Oper} {is : List (IOper × Nat × Nat)} (hok : okT P nt ops is = true) :
    is.length = ops.size ∧ ∀ (i : Nat) (o : Oper) (p : IOper × Nat × Nat), ops[i]? = some o → is[i]? = some p → okOper P nt ops o p.1 = true ∧ p.1.guard = none ∧ p.2.1 = edgeB o ∧ ∀ e ∈ o.after.toList, Region.binds .any e = true → e.on < is.length := by
  simp only [okT, Bool.and_eq_true] at hok
  obtain ⟨⟨hops, hg⟩, hz⟩ := hok
  have hlen : is.length = ops.size := by
    have key : ∀ (os : List Oper) (is : List IOper), okOpers P nt ops os is = true → os.length = is.length := by
      intro os
      induction os with
      | nil => intro is h; cases is <;> simp_all [okOpers]
      | cons o os ih => intro is h; cases is with
        | nil => simp [okOpers] at h
        | cons i is => simp only [okOpers, Bool.and_eq_true] at h; simp [ih is h.2]
    have := key _ _ hops
    simpa using this.symm
  refine ⟨hlen, fun i o p h1 h2 => ⟨?_, ?_, ?_⟩⟩
  · have key : ∀ (os : List Oper) (js : List IOper) (i : Nat) (o : Oper) (j : IOper), okOpers P nt ops os js = true → os[i]? = some o → js[i]? = some j → okOper P nt ops o j = true := by
      intro os
      induction os with
      | nil => intro js i o j _ h; simp at h
      | cons x os ih =>
        intro js i o j h h1 h2
        cases js with
        | nil => simp at h2
        | cons y js =>
          simp only [okOpers, Bool.and_eq_true] at h
          cases i with
          | zero => simp only [List.getElem?_cons_zero, Option.some.injEq] at h1 h2; subst h1; subst h2; exact h.1
          | succ i => exact ih js i o j h.2 (by simpa using h1) (by simpa using h2)
    exact key _ _ i o p.1 hops (by simpa using h1) (by simp [h2])
  · have h3 := List.all_eq_true.1 hg p (List.mem_of_getElem? h2)
    simpa using h3
  · have h3 := List.all_eq_true.1 hz (o, p) (List.mem_of_getElem? (i := i) (List.getElem?_zip_eq_some.2 ⟨by simpa using h1, h2⟩))
    simp only [Bool.and_eq_true, decide_eq_true_eq] at h3
    refine ⟨h3.1, fun e he hb => ?_⟩
    have h4 := List.all_eq_true.1 h3.2 e he
    simpa [hb] using h4

theorem ready_eq {nt : Nat} {ops : Array Oper} {is : List (IOper × Nat × Nat)} (hok : okT P nt ops is = true) {listed : Array Bool} {done : Nat} (hsz : listed.size = ops.size) (hd : ∀ i, i < ops.size → listed.getD i false = done.testBit i) :
    Region.ready .any ops listed = readyX is done := by
  obtain ⟨hlen, hp⟩ := okT_parts hok
  unfold Region.ready readyX
  rw [hlen]
  refine List.filter_congr fun i hi => ?_
  have hlt : i < ops.size := List.mem_range.1 hi
  have hil : i < is.length := by omega
  obtain ⟨_, _, hm, he⟩ := hp i ops[i] is[i] (Array.getElem?_eq_getElem hlt) (List.getElem?_eq_getElem hil)
  have h1 : listed.getD i true = done.testBit i := by
    rw [← hd i hlt]
    have : i < listed.size := by omega
    simp [Array.getD, this]
  rw [h1, Array.getElem?_eq_getElem hlt, List.getElem?_eq_getElem hil]
  simp only [Option.map_some, Option.getD_some]
  congr 1
  rw [Bool.eq_iff_iff, hm]
  unfold freeX
  rw [Array.all_eq_true', List.all_eq_true]
  refine ⟨fun h j hj => ?_, fun h e hin => ?_⟩
  · cases hb : (edgeB ops[i]).testBit j with
    | false => rfl
    | true =>
      obtain ⟨e, e1, e2, rfl⟩ := edgeB_bit.1 hb
      have h2 := h e (by simpa using e1)
      rw [e2] at h2
      have h3 := he e e1 e2
      rw [hd e.on (by omega)] at h2
      simpa using h2
  · cases hb : Region.binds .any e with
    | false => rfl
    | true =>
      have h3 := he e (by simpa using hin) hb
      have h4 := h e.on (List.mem_range.2 (by omega))
      rw [edgeB_bit.2 ⟨e, by simpa using hin, hb, rfl⟩] at h4
      rw [hd e.on (by omega)]
      simpa using h4

theorem tree_sound (hcs : CallSound P w0 call) {r : Option Nat} {n nt : Nat} {ops : Array Oper} {Q : Exit → Act → World → Prop} {is : List (IOper × Nat × Nat)} (hok : okT P nt ops is = true) {Q' : Env → Mem → Prop} {s0 : Sim} {a0 : Act} (hnt : nt ≤ a0.tmps.size)
    (hQ : ∀ s' a' w' L' M', s0.le s' → Q' L' M' → LR s' L' a'.tmps → a'.tmps.size = a0.tmps.size → a'.defers = a0.defers → MR w0 s' M' w' → Q .normal a' w') :
    ∀ (fuel done : Nat) (listed : Array Bool) (s : Sim) (L : Env) (M : Mem) (a : Act) (w : World), listed.size = ops.size → (∀ i, i < ops.size → listed.getD i false = done.testBit i) → s0.le s → LR s L a.tmps → a.tmps.size = a0.tmps.size → a.defers = a0.defers → MR w0 s M w →
      Tree call is Q' fuel done L M → wpAnyIn (wide r) n P .any ops Q fuel listed a w := by
  obtain ⟨hlen, hp⟩ := okT_parts hok
  intro fuel
  induction fuel with
  | zero =>
    intro done listed s L M a w hsz hd hs hL hsize hdef hm ht
    refine ⟨?_, hQ s a w L M hs ht.2 hL hsize hdef hm⟩
    rw [ready_eq hok hsz hd]; exact ht.1
  | succ fuel ih =>
    intro done listed s L M a w hsz hd hs hL hsize hdef hm ht
    unfold wpAnyIn
    rw [ready_eq hok hsz hd]
    refine ⟨fun hr => hQ s a w L M hs (ht.1 hr) hL hsize hdef hm, fun i hi => ?_⟩
    obtain ⟨p, v, M', h1, h2, h3⟩ := ht.2 i hi
    have hil : i < is.length := (List.getElem?_eq_some_iff.1 h1).1
    have hilt : i < ops.size := by omega
    have hio : ops[i]? = some ops[i] := Array.getElem?_eq_getElem hilt
    obtain ⟨k1, k2, _, _⟩ := hp i _ p hio h1
    obtain ⟨o1, o2, o3, o4⟩ := okOper_parts k1
    have hg : guardOk L p.1.guard = some true := by rw [k2]; rfl
    have hw := guard_run hL o4 hg
    unfold wpOpIn
    simp only [hio]
    rw [if_pos hw]
    refine op_sound hcs hm hL o1 h2 fun s2 w2 u g1 g2 g3 => ?_
    rw [o2]
    refine ih (done ||| 2 ^ i) (listed.setIfInBounds i true) s2 _ M' _ w2 (by simpa using hsz) (fun j hj => ?_) (hs.trans g1) ((hL.mono g1).push (fun t ht => by have := o3 t ht; omega) g3) (by rw [put_size]; exact hsize) (by rw [put_defers]; exact hdef) g2 h3
    rw [Nat.testBit_or, Nat.testBit_two_pow, ← hd j hj]
    have hlt : i < listed.size := by omega
    by_cases e : i = j
    · subst e; simp [Array.getD, hlt]
    · rw [Array.getD_eq_getD_getElem?, Array.getElem?_setIfInBounds_ne e, ← Array.getD_eq_getD_getElem?]
      simp [e]

end

section
variable (call : Nat → List AV → Mem → Option (AV × Mem))

/-- What must hold so that code ends in what is asked for; marked regions are walked in every order. -/
def WPc : C → Env → Mem → (Env → Mem → Prop) → (X → Env → Mem → Prop) → Prop
  | .skip, env, M, kn, _ => kn env M
  | .exit id, env, M, _, kx => kx (.ext id) env M
  | .ret, env, M, _, kx => kx .ret env M
  | .seq a b, env, M, kn, kx => WPc a env M (fun e m => WPc b e m kn kx) kx
  | .seqT a outs b, env, M, kn, kx => WPc a env M (fun e m => WPc b (e.keep outs) m kn kx) kx
  | .cond c a b, env, M, kn, kx => match c.ev env with
    | some (.bool true) => WPc a env M kn kx
    | some (.bool false) => WPc b env M kn kx
    | _ => False
  | .block id a, env, M, kn, kx => WPc a env M kn fun x e m => match x with
    | .ext i => if i = id then kn e m else kx (.ext i) e m
    | x => kx x e m
  | .regD is outs, env, M, kn, kx => match isX is with
    | true => Tree call is (fun L m => kn (L.keep outs) m) is.length 0 env M
    | false => ∃ n x e m, evC call n (.regD is outs) env M = some (x, e, m) ∧ match x with
      | .nrm => kn e m
      | x => kx x e m
  | c, env, M, kn, kx => ∃ n x e m, evC call n c env M = some (x, e, m) ∧ match x with
      | .nrm => kn e m
      | x => kx x e m
end

/-- What ends is proved of code by running it. -/
def outP (kn : Env → Mem → Prop) (kx : X → Env → Mem → Prop) : X → Env → Mem → Prop
  | .nrm, e, m => kn e m
  | x, e, m => kx x e m

def noX : C → Bool
  | .regD is _ => !isX is
  | .seq a b | .seqT a _ b | .cond _ a b => noX a && noX b
  | .block _ a => noX a
  | _ => true

theorem WPc_mono {call : Nat → List AV → Mem → Option (AV × Mem)} : ∀ {c : C} {env : Env} {M : Mem} {kn kn' : Env → Mem → Prop} {kx kx' : X → Env → Mem → Prop}, (∀ e m, kn e m → kn' e m) → (∀ x e m, kx x e m → kx' x e m) → WPc call c env M kn kx → WPc call c env M kn' kx' := by
  have tree : ∀ {is : List (IOper × Nat × Nat)} {Q Q' : Env → Mem → Prop}, (∀ e m, Q e m → Q' e m) → ∀ {fuel done : Nat} {L : Env} {M : Mem}, Tree call is Q fuel done L M → Tree call is Q' fuel done L M := by
    intro is Q Q' h fuel
    induction fuel with
    | zero => intro done L M ht; exact ⟨ht.1, h _ _ ht.2⟩
    | succ fuel ih =>
      intro done L M ht
      refine ⟨fun hr => h _ _ (ht.1 hr), fun i hi => ?_⟩
      obtain ⟨p, v, M', h1, h2, h3⟩ := ht.2 i hi
      exact ⟨p, v, M', h1, h2, ih h3⟩
  have leaf : ∀ {c : C} {env : Env} {M : Mem} {kn kn' : Env → Mem → Prop} {kx kx' : X → Env → Mem → Prop}, (∀ e m, kn e m → kn' e m) → (∀ x e m, kx x e m → kx' x e m) →
      (∃ n x e m, evC call n c env M = some (x, e, m) ∧ match x with | .nrm => kn e m | x => kx x e m) → ∃ n x e m, evC call n c env M = some (x, e, m) ∧ match x with | .nrm => kn' e m | x => kx' x e m := by
    intro c env M kn kn' kx kx' h1 h2 ⟨n, x, e, m, g1, g2⟩
    refine ⟨n, x, e, m, g1, ?_⟩
    cases x with
    | nrm => exact h1 _ _ g2
    | ext i => exact h2 _ _ _ g2
    | ret => exact h2 _ _ _ g2
  intro c
  induction c with
  | skip => intro env M kn kn' kx kx' h1 h2 h; exact h1 _ _ h
  | exit id => intro env M kn kn' kx kx' h1 h2 h; exact h2 _ _ _ h
  | ret => intro env M kn kn' kx kx' h1 h2 h; exact h2 _ _ _ h
  | seq a b iha ihb => intro env M kn kn' kx kx' h1 h2 h; exact iha (fun e m h => ihb h1 h2 h) h2 h
  | seqT a outs b iha ihb => intro env M kn kn' kx kx' h1 h2 h; exact iha (fun e m h => ihb h1 h2 h) h2 h
  | cond c a b iha ihb =>
    intro env M kn kn' kx kx' h1 h2 h
    simp only [WPc] at h ⊢
    split at h
    · exact iha h1 h2 h
    · exact ihb h1 h2 h
    · exact h.elim
  | block id a iha =>
    intro env M kn kn' kx kx' h1 h2 h
    refine iha h1 (fun x e m h => ?_) h
    cases x with
    | nrm => exact h2 _ _ _ h
    | ret => exact h2 _ _ _ h
    | ext i =>
      simp only at h ⊢
      split
      · rename_i e1; rw [if_pos e1] at h; exact h1 _ _ h
      · rename_i e1; rw [if_neg e1] at h; exact h2 _ _ _ h
  | regD is outs =>
    intro env M kn kn' kx kx' h1 h2 h
    simp only [WPc] at h ⊢
    cases hx : isX is with
    | true => rw [hx] at h; exact tree (fun e m h => h1 _ _ h) h
    | false => rw [hx] at h; exact leaf h1 h2 h
  | reg ops outs => intro env M kn kn' kx kx' h1 h2 h; exact leaf h1 h2 h
  | loop keep pop a _ => intro env M kn kn' kx kx' h1 h2 h; exact leaf h1 h2 h
  | rangeFunc g ps as body keep _ _ => intro env M kn kn' kx kx' h1 h2 h; exact leaf h1 h2 h

theorem wpc_ev {call : Nat → List AV → Mem → Option (AV × Mem)} {n : Nat} : ∀ {c : C} {env : Env} {M : Mem} {kn : Env → Mem → Prop} {kx : X → Env → Mem → Prop} {x : X} {e : Env} {m : Mem}, noX c = true → evC call n c env M = some (x, e, m) → outP kn kx x e m → WPc call c env M kn kx := by
  have leaf : ∀ {c : C} {env : Env} {M : Mem} {kn : Env → Mem → Prop} {kx : X → Env → Mem → Prop} {x : X} {e : Env} {m : Mem}, evC call n c env M = some (x, e, m) → outP kn kx x e m →
      ∃ n x e m, evC call n c env M = some (x, e, m) ∧ match x with | .nrm => kn e m | x => kx x e m := by
    intro c env M kn kx x e m h1 h2
    refine ⟨n, x, e, m, h1, ?_⟩
    cases x <;> exact h2
  intro c
  induction c with
  | skip => intro env M kn kx x e m _ h h2; simp only [evC, Option.some.injEq, Prod.mk.injEq] at h; obtain ⟨rfl, rfl, rfl⟩ := h; exact h2
  | exit id => intro env M kn kx x e m _ h h2; simp only [evC, Option.some.injEq, Prod.mk.injEq] at h; obtain ⟨rfl, rfl, rfl⟩ := h; exact h2
  | ret => intro env M kn kx x e m _ h h2; simp only [evC, Option.some.injEq, Prod.mk.injEq] at h; obtain ⟨rfl, rfl, rfl⟩ := h; exact h2
  | seq a b iha ihb =>
    intro env M kn kx x e m hn h h2
    simp only [noX, Bool.and_eq_true] at hn
    simp only [evC] at h
    cases h1 : evC call n a env M with
    | none => rw [h1] at h; cases h
    | some y =>
      obtain ⟨y, e1, m1⟩ := y
      rw [h1] at h
      refine iha hn.1 h1 ?_
      cases y with
      | nrm => exact ihb hn.2 h h2
      | ext i => simp only [Option.some.injEq, Prod.mk.injEq] at h; obtain ⟨rfl, rfl, rfl⟩ := h; exact h2
      | ret => simp only [Option.some.injEq, Prod.mk.injEq] at h; obtain ⟨rfl, rfl, rfl⟩ := h; exact h2
  | seqT a outs b iha ihb =>
    intro env M kn kx x e m hn h h2
    simp only [noX, Bool.and_eq_true] at hn
    simp only [evC] at h
    cases h1 : evC call n a env M with
    | none => rw [h1] at h; cases h
    | some y =>
      obtain ⟨y, e1, m1⟩ := y
      rw [h1] at h
      refine iha hn.1 h1 ?_
      cases y with
      | nrm => exact ihb hn.2 h h2
      | ext i => simp only [Option.some.injEq, Prod.mk.injEq] at h; obtain ⟨rfl, rfl, rfl⟩ := h; exact h2
      | ret => simp only [Option.some.injEq, Prod.mk.injEq] at h; obtain ⟨rfl, rfl, rfl⟩ := h; exact h2
  | cond c a b iha ihb =>
    intro env M kn kx x e m hn h h2
    simp only [noX, Bool.and_eq_true] at hn
    simp only [evC] at h
    simp only [WPc]
    split at h
    · rename_i e1; rw [e1]; exact iha hn.1 h h2
    · rename_i e1; rw [e1]; exact ihb hn.2 h h2
    · cases h
  | block id a iha =>
    intro env M kn kx x e m hn h h2
    simp only [noX] at hn
    simp only [evC] at h
    simp only [WPc]
    cases h1 : evC call n a env M with
    | none => rw [h1] at h; cases h
    | some y =>
      obtain ⟨y, e1, m1⟩ := y
      rw [h1] at h
      refine iha hn h1 ?_
      cases y with
      | nrm => simp only [Option.some.injEq, Prod.mk.injEq] at h; obtain ⟨rfl, rfl, rfl⟩ := h; exact h2
      | ret => simp only [Option.some.injEq, Prod.mk.injEq] at h; obtain ⟨rfl, rfl, rfl⟩ := h; exact h2
      | ext i =>
        simp only at h
        simp only [outP]
        split at h
        · rename_i e2; simp only [Option.some.injEq, Prod.mk.injEq] at h; obtain ⟨rfl, rfl, rfl⟩ := h; rw [if_pos e2]; exact h2
        · rename_i e2; simp only [Option.some.injEq, Prod.mk.injEq] at h; obtain ⟨rfl, rfl, rfl⟩ := h; rw [if_neg e2]; exact h2
  | regD is outs =>
    intro env M kn kx x e m hn h h2
    simp only [noX, Bool.not_eq_true'] at hn
    simp only [WPc]
    rw [hn]
    exact leaf h h2
  | reg ops outs => intro env M kn kx x e m _ h h2; exact leaf h h2
  | loop keep pop a _ => intro env M kn kx x e m _ h h2; exact leaf h h2
  | rangeFunc g ps as body keep _ _ => intro env M kn kx x e m _ h h2; exact leaf h h2

/-- What is asked for, as an answer. -/
noncomputable def asN (kn : Env → Mem → Prop) : KN := fun e m => open Classical in if kn e m then some (.tuple [], m) else none
noncomputable def asX (kx : X → Env → Mem → Prop) : KX := fun x e m => open Classical in if kx x e m then some (.tuple [], m) else none

theorem asN_some {kn : Env → Mem → Prop} {e : Env} {m : Mem} {r} (h : asN kn e m = some r) : kn e m := by
  unfold asN at h; split at h
  · assumption
  · cases h
theorem asX_some {kx : X → Env → Mem → Prop} {x : X} {e : Env} {m : Mem} {r} (h : asX kx x e m = some r) : kx x e m := by
  unfold asX at h; split at h
  · assumption
  · cases h

theorem wpc_K {call : Nat → List AV → Mem → Option (AV × Mem)} {n : Nat} {c : C} {env : Env} {M : Mem} {kn : Env → Mem → Prop} {kx : X → Env → Mem → Prop} {r : AV × Mem} (hn : noX c = true) (h : evK call n c env M (asN kn) (asX kx) = some r) : WPc call c env M kn kx := by
  have h1 := evK_le (c := c) (env := env) (M := M) (fun e m => Rho.le_refl (asN kn e m)) (fun x e m => Rho.le_refl (asX kx x e m)) r h
  unfold bindC at h1
  split at h1
  · cases h1
  · rename_i h2; exact wpc_ev hn h2 (asN_some h1)
  · rename_i x e m hx h2
    refine wpc_ev hn h2 ?_
    cases x with
    | nrm => exact (hx rfl).elim
    | ext i => exact asX_some h1
    | ret => exact asX_some h1

end Go.Am
