/- An abstract machine for the part of Go that this program uses: a region whose effects may come in any order: every order is walked, each by itself; what is proved of the end of each holds of the run. -/
import Derived.Test.YtdddcofggemnkaaAmIn
import Derived.Test.YtdddcofggemnkaaAmK
import Derived.Test.YtdddcofggemnkaaAmW
namespace Go.Am
set_option linter.all false
open Go Go.RowKit

/-- Is the region marked: its order is to be walked as a tree? -/
def isX (is : List (IOper × Nat × Nat)) : Bool := is.any fun p => p.2.2 == 1000001

/-- Who may come up: what stands ahead of it (a number's bits) has been. -/
def freeX (n done m : Nat) : Bool := (List.range n).all fun j => !m.testBit j || done.testBit j

def readyX (is : List (IOper × Nat × Nat)) (done : Nat) : List Nat :=
  (List.range is.length).filter fun i => !done.testBit i && ((is[i]?).map fun p => freeX is.length done p.2.1).getD false

section
variable (call : Nat → List AV → Mem → Option (AV × Mem))

/-- Whatever order the operations come in, what is asked for holds behind them. -/
def Tree (is : List (IOper × Nat × Nat)) (Q : Env → Mem → Prop) : Nat → Nat → Env → Mem → Prop
  | 0, done, L, M => readyX is done = [] ∧ Q L M
  | fuel + 1, done, L, M => (readyX is done = [] → Q L M) ∧ ∀ i ∈ readyX is done, ∃ p v M', is[i]? = some p ∧ evOp call L M p.1.op = some (v, M') ∧ Tree is Q fuel (done ||| 2 ^ i) (pushL p.1.dst v L) M'
end

def edgeB (o : Oper) : Nat := o.after.toList.foldl (fun s e => if Region.binds .any e then s ||| 2 ^ e.on else s) 0

theorem edgeB_aux (j : Nat) : ∀ (es : List Edge) (z : Nat), (es.foldl (fun s e => if Region.binds .any e then s ||| 2 ^ e.on else s) z).testBit j = true ↔ z.testBit j = true ∨ ∃ e ∈ es, Region.binds .any e = true ∧ e.on = j := by
  intro es
  induction es with
  | nil => intro z; simp
  | cons e es ih =>
    intro z
    simp only [List.foldl_cons]
    rw [ih]
    cases hb : Region.binds .any e with
    | false =>
      simp only [Bool.false_eq_true, if_false, List.mem_cons, exists_eq_or_imp, hb, false_and, false_or]
    | true =>
      simp only [if_true, Nat.testBit_or, Nat.testBit_two_pow, Bool.or_eq_true, decide_eq_true_eq, List.mem_cons, exists_eq_or_imp, hb, true_and]
      exact or_assoc

theorem edgeB_bit {o : Oper} {j : Nat} : (edgeB o).testBit j = true ↔ ∃ e ∈ o.after.toList, Region.binds .any e = true ∧ e.on = j := by
  unfold edgeB
  rw [edgeB_aux]
  simp

def okT (P : Program) (nt : Nat) (ops : Array Oper) (is : List (IOper × Nat × Nat)) : Bool :=
  okOpers P nt ops ops.toList (is.map (·.1)) && (is.all fun p => p.1.guard.isNone) &&
  ((ops.toList.zip is).all fun q => decide (q.2.2.1 = edgeB q.1) && q.1.after.toList.all fun e => !Region.binds .any e || decide (e.on < is.length))

section
variable {P : Program} {w0 : Base} {call : Nat → List AV → Mem → Option (AV × Mem)}

theorem okT_parts {nt : Nat} {ops : Array Oper} {is : List (IOper × Nat × Nat)} (hok : okT P nt ops is = true) :
    is.length = ops.size ∧ ∀ (i : Nat) (o : Oper) (p : IOper × Nat × Nat), ops[i]? = some o → is[i]? = some p → okOper P nt ops o p.1 = true ∧ p.1.guard = none ∧ p.2.1 = edgeB o ∧ ∀ e ∈ o.after.toList, Region.binds .any e = true → e.on < is.length := by
  simp only [okT, Bool.and_eq_true] at hok
  obtain ⟨⟨hops, hg⟩, hz⟩ := hok
  have hlen : is.length = ops.size := by
    have key : ∀ (os : List Oper) (is : List IOper), okOpers P nt ops os is = true → os.length = is.length := by
      intro os
      induction os with
      | nil => intro is h; cases is <;> simp_all [okOpers]
      | cons o os ih => intro is h; cases is with
        | nil => simp [okOpers] at h
        | cons i is => simp only [okOpers, Bool.and_eq_true] at h; simp [ih is h.2]
    have := key _ _ hops
    simpa using this.symm
  refine ⟨hlen, fun i o p h1 h2 => ⟨?_, ?_, ?_⟩⟩
  · have key : ∀ (os : List Oper) (js : List IOper) (i : Nat) (o : Oper) (j : IOper), okOpers P nt ops os js = true → os[i]? = some o → js[i]? = some j → okOper P nt ops o j = true := by
      intro os
      induction os with
      | nil => intro js i o j _ h; simp at h
      | cons x os ih =>
        intro js i o j h h1 h2
        cases js with
        | nil => simp at h2
        | cons y js =>
          simp only [okOpers, Bool.and_eq_true] at h
          cases i with
          | zero => simp only [List.getElem?_cons_zero, Option.some.injEq] at h1 h2; subst h1; subst h2; exact h.1
          | succ i => exact ih js i o j h.2 (by simpa using h1) (by simpa using h2)
    exact key _ _ i o p.1 hops (by simpa using h1) (by simp [h2])
  · have h3 := List.all_eq_true.1 hg p (List.mem_of_getElem? h2)
    simpa using h3
  · have h3 := List.all_eq_true.1 hz (o, p) (List.mem_of_getElem? (i := i) (List.getElem?_zip_eq_some.2 ⟨by simpa using h1, h2⟩))
    simp only [Bool.and_eq_true, decide_eq_true_eq] at h3
    refine ⟨h3.1, fun e he hb => ?_⟩
    have h4 := List.all_eq_true.1 h3.2 e he
    simpa [hb] using h4

theorem ready_eq {nt : Nat} {ops : Array Oper} {is : List (IOper × Nat × Nat)} (hok : okT P nt ops is = true) {listed : Array Bool} {done : Nat} (hsz : listed.size = ops.size) (hd : ∀ i, i < ops.size → listed.getD i false = done.testBit i) :
    Region.ready .any ops listed = readyX is done := by
  obtain ⟨hlen, hp⟩ := okT_parts hok
  unfold Region.ready readyX
  rw [hlen]
  refine List.filter_congr fun i hi => ?_
  have hlt : i < ops.size := List.mem_range.1 hi
  have hil : i < is.length := by omega
  obtain ⟨_, _, hm, he⟩ := hp i ops[i] is[i] (Array.getElem?_eq_getElem hlt) (List.getElem?_eq_getElem hil)
  have h1 : listed.getD i true = done.testBit i := by
    rw [← hd i hlt]
    have : i < listed.size := by omega
    simp [Array.getD, this]
  rw [h1, Array.getElem?_eq_getElem hlt, List.getElem?_eq_getElem hil]
  simp only [Option.map_some, Option.getD_some]
  congr 1
  rw [Bool.eq_iff_iff, hm]
  unfold freeX
  rw [Array.all_eq_true', List.all_eq_true]
  refine ⟨fun h j hj => ?_, fun h e hin => ?_⟩
  · cases hb : (edgeB ops[i]).testBit j with
    | false => rfl
    | true =>
      obtain ⟨e, e1, e2, rfl⟩ := edgeB_bit.1 hb
      have h2 := h e (by simpa using e1)
      rw [e2] at h2
      have h3 := he e e1 e2
      rw [hd e.on (by omega)] at h2
      simpa using h2
  · cases hb : Region.binds .any e with
    | false => rfl
    | true =>
      have h3 := he e (by simpa using hin) hb
      have h4 := h e.on (List.mem_range.2 (by omega))
      rw [edgeB_bit.2 ⟨e, by simpa using hin, hb, rfl⟩] at h4
      rw [hd e.on (by omega)]
      simpa using h4

theorem tree_sound (hcs : CallSound P w0 call) {r : Option Nat} {n nt : Nat} {ops : Array Oper} {Q : Exit → Act → World → Prop} {is : List (IOper × Nat × Nat)} (hok : okT P nt ops is = true) {Q' : Env → Mem → Prop} {s0 : Sim} {a0 : Act} (hnt : nt ≤ a0.tmps.size)
    (hQ : ∀ s' a' w' L' M', s0.le s' → Q' L' M' → LR s' L' a'.tmps → a'.tmps.size = a0.tmps.size → a'.defers = a0.defers → MR w0 s' M' w' → Q .normal a' w') :
    ∀ (fuel done : Nat) (listed : Array Bool) (s : Sim) (L : Env) (M : Mem) (a : Act) (w : World), listed.size = ops.size → (∀ i, i < ops.size → listed.getD i false = done.testBit i) → s0.le s → LR s L a.tmps → a.tmps.size = a0.tmps.size → a.defers = a0.defers → MR w0 s M w →
      Tree call is Q' fuel done L M → wpAnyIn (wide r) n P .any ops Q fuel listed a w := by
  obtain ⟨hlen, hp⟩ := okT_parts hok
  intro fuel
  induction fuel with
  | zero =>
    intro done listed s L M a w hsz hd hs hL hsize hdef hm ht
    refine ⟨?_, hQ s a w L M hs ht.2 hL hsize hdef hm⟩
    rw [ready_eq hok hsz hd]; exact ht.1
  | succ fuel ih =>
    intro done listed s L M a w hsz hd hs hL hsize hdef hm ht
    unfold wpAnyIn
    rw [ready_eq hok hsz hd]
    refine ⟨fun hr => hQ s a w L M hs (ht.1 hr) hL hsize hdef hm, fun i hi => ?_⟩
    obtain ⟨p, v, M', h1, h2, h3⟩ := ht.2 i hi
    have hil : i < is.length := (List.getElem?_eq_some_iff.1 h1).1
    have hilt : i < ops.size := by omega
    have hio : ops[i]? = some ops[i] := Array.getElem?_eq_getElem hilt
    obtain ⟨k1, k2, _, _⟩ := hp i _ p hio h1
    obtain ⟨o1, o2, o3, o4⟩ := okOper_parts k1
    have hg : guardOk L p.1.guard = some true := by rw [k2]; rfl
    have hw := guard_run hL o4 hg
    unfold wpOpIn
    simp only [hio]
    rw [if_pos hw]
    refine op_sound hcs hm hL o1 h2 fun s2 w2 u g1 g2 g3 => ?_
    rw [o2]
    refine ih (done ||| 2 ^ i) (listed.setIfInBounds i true) s2 _ M' _ w2 (by simpa using hsz) (fun j hj => ?_) (hs.trans g1) ((hL.mono g1).push (fun t ht => by have := o3 t ht; omega) g3) (by rw [put_size]; exact hsize) (by rw [put_defers]; exact hdef) g2 h3
    rw [Nat.testBit_or, Nat.testBit_two_pow, ← hd j hj]
    have hlt : i < listed.size := by omega
    by_cases e : i = j
    · subst e; simp [Array.getD, hlt]
    · rw [Array.getD_eq_getD_getElem?, Array.getElem?_setIfInBounds_ne e, ← Array.getD_eq_getD_getElem?]
      simp [e]

end

section
variable (call : Nat → List AV → Mem → Option (AV × Mem))

/-- What must hold so that code ends in what is asked for; marked regions are walked in every order. -/
def WPc : C → Env → Mem → (Env → Mem → Prop) → (X → Env → Mem → Prop) → Prop
  | .skip, env, M, kn, _ => kn env M
  | .exit id, env, M, _, kx => kx (.ext id) env M
  | .ret, env, M, _, kx => kx .ret env M
  | .seq a b, env, M, kn, kx => WPc a env M (fun e m => WPc b e m kn kx) kx
  | .seqT a outs b, env, M, kn, kx => WPc a env M (fun e m => WPc b (e.keep outs) m kn kx) kx
  | .cond c a b, env, M, kn, kx => match c.ev env with
    | some (.bool true) => WPc a env M kn kx
    | some (.bool false) => WPc b env M kn kx
    | _ => False
  | .block id a, env, M, kn, kx => WPc a env M kn fun x e m => match x with
    | .ext i => if i = id then kn e m else kx (.ext i) e m
    | x => kx x e m
  | .regD is outs, env, M, kn, kx => match isX is with
    | true => Tree call is (fun L m => kn (L.keep outs) m) is.length 0 env M
    | false => ∃ n x e m, evC call n (.regD is outs) env M = some (x, e, m) ∧ match x with
      | .nrm => kn e m
      | x => kx x e m
  | c, env, M, kn, kx => ∃ n x e m, evC call n c env M = some (x, e, m) ∧ match x with
      | .nrm => kn e m
      | x => kx x e m
end

/-- What ends is proved of code by running it. -/
def outP (kn : Env → Mem → Prop) (kx : X → Env → Mem → Prop) : X → Env → Mem → Prop
  | .nrm, e, m => kn e m
  | x, e, m => kx x e m

def noX : C → Bool
  | .regD is _ => !isX is
  | .seq a b | .seqT a _ b | .cond _ a b => noX a && noX b
  | .block _ a => noX a
  | _ => true

theorem WPc_mono {call : Nat → List AV → Mem → Option (AV × Mem)} : ∀ {c : C} {env : Env} {M : Mem} {kn kn' : Env → Mem → Prop} {kx kx' : X → Env → Mem → Prop}, (∀ e m, kn e m → kn' e m) → (∀ x e m, kx x e m → kx' x e m) → WPc call c env M kn kx → WPc call c env M kn' kx' := by
  have tree : ∀ {is : List (IOper × Nat × Nat)} {Q Q' : Env → Mem → Prop}, (∀ e m, Q e m → Q' e m) → ∀ {fuel done : Nat} {L : Env} {M : Mem}, Tree call is Q fuel done L M → Tree call is Q' fuel done L M := by
    intro is Q Q' h fuel
    induction fuel with
    | zero => intro done L M ht; exact ⟨ht.1, h _ _ ht.2⟩
    | succ fuel ih =>
      intro done L M ht
      refine ⟨fun hr => h _ _ (ht.1 hr), fun i hi => ?_⟩
      obtain ⟨p, v, M', h1, h2, h3⟩ := ht.2 i hi
      exact ⟨p, v, M', h1, h2, ih h3⟩
  have leaf : ∀ {c : C} {env : Env} {M : Mem} {kn kn' : Env → Mem → Prop} {kx kx' : X → Env → Mem → Prop}, (∀ e m, kn e m → kn' e m) → (∀ x e m, kx x e m → kx' x e m) →
      (∃ n x e m, evC call n c env M = some (x, e, m) ∧ match x with | .nrm => kn e m | x => kx x e m) → ∃ n x e m, evC call n c env M = some (x, e, m) ∧ match x with | .nrm => kn' e m | x => kx' x e m := by
    intro c env M kn kn' kx kx' h1 h2 ⟨n, x, e, m, g1, g2⟩
    refine ⟨n, x, e, m, g1, ?_⟩
    cases x with
    | nrm => exact h1 _ _ g2
    | ext i => exact h2 _ _ _ g2
    | ret => exact h2 _ _ _ g2
  intro c
  induction c with
  | skip => intro env M kn kn' kx kx' h1 h2 h; exact h1 _ _ h
  | exit id => intro env M kn kn' kx kx' h1 h2 h; exact h2 _ _ _ h
  | ret => intro env M kn kn' kx kx' h1 h2 h; exact h2 _ _ _ h
  | seq a b iha ihb => intro env M kn kn' kx kx' h1 h2 h; exact iha (fun e m h => ihb h1 h2 h) h2 h
  | seqT a outs b iha ihb => intro env M kn kn' kx kx' h1 h2 h; exact iha (fun e m h => ihb h1 h2 h) h2 h
  | cond c a b iha ihb =>
    intro env M kn kn' kx kx' h1 h2 h
    simp only [WPc] at h ⊢
    split at h
    · exact iha h1 h2 h
    · exact ihb h1 h2 h
    · exact h.elim
  | block id a iha =>
    intro env M kn kn' kx kx' h1 h2 h
    refine iha h1 (fun x e m h => ?_) h
    cases x with
    | nrm => exact h2 _ _ _ h
    | ret => exact h2 _ _ _ h
    | ext i =>
      simp only at h ⊢
      split
      · rename_i e1; rw [if_pos e1] at h; exact h1 _ _ h
      · rename_i e1; rw [if_neg e1] at h; exact h2 _ _ _ h
  | regD is outs =>
    intro env M kn kn' kx kx' h1 h2 h
    simp only [WPc] at h ⊢
    cases hx : isX is with
    | true => rw [hx] at h; exact tree (fun e m h => h1 _ _ h) h
    | false => rw [hx] at h; exact leaf h1 h2 h
  | reg ops outs => intro env M kn kn' kx kx' h1 h2 h; exact leaf h1 h2 h
  | loop keep pop a _ => intro env M kn kn' kx kx' h1 h2 h; exact leaf h1 h2 h
  | rangeFunc g ps as body keep _ _ => intro env M kn kn' kx kx' h1 h2 h; exact leaf h1 h2 h

theorem wpc_ev {call : Nat → List AV → Mem → Option (AV × Mem)} {n : Nat} : ∀ {c : C} {env : Env} {M : Mem} {kn : Env → Mem → Prop} {kx : X → Env → Mem → Prop} {x : X} {e : Env} {m : Mem}, noX c = true → evC call n c env M = some (x, e, m) → outP kn kx x e m → WPc call c env M kn kx := by
  have leaf : ∀ {c : C} {env : Env} {M : Mem} {kn : Env → Mem → Prop} {kx : X → Env → Mem → Prop} {x : X} {e : Env} {m : Mem}, evC call n c env M = some (x, e, m) → outP kn kx x e m →
      ∃ n x e m, evC call n c env M = some (x, e, m) ∧ match x with | .nrm => kn e m | x => kx x e m := by
    intro c env M kn kx x e m h1 h2
    refine ⟨n, x, e, m, h1, ?_⟩
    cases x <;> exact h2
  intro c
  induction c with
  | skip => intro env M kn kx x e m _ h h2; simp only [evC, Option.some.injEq, Prod.mk.injEq] at h; obtain ⟨rfl, rfl, rfl⟩ := h; exact h2
  | exit id => intro env M kn kx x e m _ h h2; simp only [evC, Option.some.injEq, Prod.mk.injEq] at h; obtain ⟨rfl, rfl, rfl⟩ := h; exact h2
  | ret => intro env M kn kx x e m _ h h2; simp only [evC, Option.some.injEq, Prod.mk.injEq] at h; obtain ⟨rfl, rfl, rfl⟩ := h; exact h2
  | seq a b iha ihb =>
    intro env M kn kx x e m hn h h2
    simp only [noX, Bool.and_eq_true] at hn
    simp only [evC] at h
    cases h1 : evC call n a env M with
    | none => rw [h1] at h; cases h
    | some y =>
      obtain ⟨y, e1, m1⟩ := y
      rw [h1] at h
      refine iha hn.1 h1 ?_
      cases y with
      | nrm => exact ihb hn.2 h h2
      | ext i => simp only [Option.some.injEq, Prod.mk.injEq] at h; obtain ⟨rfl, rfl, rfl⟩ := h; exact h2
      | ret => simp only [Option.some.injEq, Prod.mk.injEq] at h; obtain ⟨rfl, rfl, rfl⟩ := h; exact h2
  | seqT a outs b iha ihb =>
    intro env M kn kx x e m hn h h2
    simp only [noX, Bool.and_eq_true] at hn
    simp only [evC] at h
    cases h1 : evC call n a env M with
    | none => rw [h1] at h; cases h
    | some y =>
      obtain ⟨y, e1, m1⟩ := y
      rw [h1] at h
      refine iha hn.1 h1 ?_
      cases y with
      | nrm => exact ihb hn.2 h h2
      | ext i => simp only [Option.some.injEq, Prod.mk.injEq] at h; obtain ⟨rfl, rfl, rfl⟩ := h; exact h2
      | ret => simp only [Option.some.injEq, Prod.mk.injEq] at h; obtain ⟨rfl, rfl, rfl⟩ := h; exact h2
  | cond c a b iha ihb =>
    intro env M kn kx x e m hn h h2
    simp only [noX, Bool.and_eq_true] at hn
    simp only [evC] at h
    simp only [WPc]
    split at h
    · rename_i e1; rw [e1]; exact iha hn.1 h h2
    · rename_i e1; rw [e1]; exact ihb hn.2 h h2
    · cases h
  | block id a iha =>
    intro env M kn kx x e m hn h h2
    simp only [noX] at hn
    simp only [evC] at h
    simp only [WPc]
    cases h1 : evC call n a env M with
    | none => rw [h1] at h; cases h
    | some y =>
      obtain ⟨y, e1, m1⟩ := y
      rw [h1] at h
      refine iha hn h1 ?_
      cases y with
      | nrm => simp only [Option.some.injEq, Prod.mk.injEq] at h; obtain ⟨rfl, rfl, rfl⟩ := h; exact h2
      | ret => simp only [Option.some.injEq, Prod.mk.injEq] at h; obtain ⟨rfl, rfl, rfl⟩ := h; exact h2
      | ext i =>
        simp only at h
        simp only [outP]
        split at h
        · rename_i e2; simp only [Option.some.injEq, Prod.mk.injEq] at h; obtain ⟨rfl, rfl, rfl⟩ := h; rw [if_pos e2]; exact h2
        · rename_i e2; simp only [Option.some.injEq, Prod.mk.injEq] at h; obtain ⟨rfl, rfl, rfl⟩ := h; rw [if_neg e2]; exact h2
  | regD is outs =>
    intro env M kn kx x e m hn h h2
    simp only [noX, Bool.not_eq_true'] at hn
    simp only [WPc]
    rw [hn]
    exact leaf h h2
  | reg ops outs => intro env M kn kx x e m _ h h2; exact leaf h h2
  | loop keep pop a _ => intro env M kn kx x e m _ h h2; exact leaf h h2
  | rangeFunc g ps as body keep _ _ => intro env M kn kx x e m _ h h2; exact leaf h h2

/-- What is asked for, as an answer. -/
noncomputable def asN (kn : Env → Mem → Prop) : KN := fun e m => open Classical in if kn e m then some (.tuple [], m) else none
noncomputable def asX (kx : X → Env → Mem → Prop) : KX := fun x e m => open Classical in if kx x e m then some (.tuple [], m) else none

theorem asN_some {kn : Env → Mem → Prop} {e : Env} {m : Mem} {r} (h : asN kn e m = some r) : kn e m := by
  unfold asN at h; split at h
  · assumption
  · cases h
theorem asX_some {kx : X → Env → Mem → Prop} {x : X} {e : Env} {m : Mem} {r} (h : asX kx x e m = some r) : kx x e m := by
  unfold asX at h; split at h
  · assumption
  · cases h

theorem wpc_K {call : Nat → List AV → Mem → Option (AV × Mem)} {n : Nat} {c : C} {env : Env} {M : Mem} {kn : Env → Mem → Prop} {kx : X → Env → Mem → Prop} {r : AV × Mem} (hn : noX c = true) (h : evK call n c env M (asN kn) (asX kx) = some r) : WPc call c env M kn kx := by
  have h1 := evK_le (c := c) (env := env) (M := M) (fun e m => Rho.le_refl (asN kn e m)) (fun x e m => Rho.le_refl (asX kx x e m)) r h
  unfold bindC at h1
  split at h1
  · cases h1
  · rename_i h2; exact wpc_ev hn h2 (asN_some h1)
  · rename_i x e m hx h2
    refine wpc_ev hn h2 ?_
    cases x with
    | nrm => exact (hx rfl).elim
    | ext i => exact asX_some h1
    | ret => exact asX_some h1

def okX (P : Program) (nt : Nat) : Code → C → Bool
  | .seq a b, .seq a' b' => okX P nt a a' && okX P nt b b'
  | .seq a b, .seqT a' _ b' => okX P nt a a' && okX P nt b b'
  | .cond c a b, .cond c' a' b' => okArg c c' && okX P nt a a' && okX P nt b b'
  | .block id a, .block id' a' => id == id' && okX P nt a a'
  | .region id ops true, .regD is outs => match isX is with
    | true => okT P nt ops is
    | false => okC P nt (.region id ops true) (.regD is outs)
  | code, c => okC P nt code c

section
variable {P : Program} {w0 : Base}

theorem wpcode_sound (hmix : P.follows .mixedOrders = true) {call : Nat → List AV → Mem → Option (AV × Mem)} (hcs : CallSound P w0 call) (hkeep : ∀ f args M r M', call f args M = some (r, M') → Keeps M M') (hokc : ∀ nt code c, w0.okc nt code c ↔ okC P nt code c = true) {m nt : Nat} :
    ∀ (code : Code) (c : C) (s : Sim) (env : Env) (M : Mem) (w : World) (a : Act) (kn : Env → Mem → Prop) (kx : X → Env → Mem → Prop) (Q : Exit → Act → World → Prop),
      okX P nt code c = true → nt ≤ a.tmps.size → LR s env a.tmps → MR w0 s M w → WPc call c env M kn kx →
      (∀ x e M' s' a' w', outP kn kx x e M' → s.le s' → LR s' e a'.tmps → a'.tmps.size = a.tmps.size → Marks s s' a'.defers a.defers → MR w0 s' M' w' → Q x.exit a' w') → code.wpIn (wide none) m P Q a w := by
  -- what is run as it is
  have leaf : ∀ (code : Code) (c : C) (s : Sim) (env : Env) (M : Mem) (w : World) (a : Act) (kn : Env → Mem → Prop) (kx : X → Env → Mem → Prop) (Q : Exit → Act → World → Prop),
      okC P nt code c = true → nt ≤ a.tmps.size → LR s env a.tmps → MR w0 s M w → (∃ n x e m, evC call n c env M = some (x, e, m) ∧ match x with | .nrm => kn e m | x => kx x e m) →
      (∀ x e M' s' a' w', outP kn kx x e M' → s.le s' → LR s' e a'.tmps → a'.tmps.size = a.tmps.size → Marks s s' a'.defers a.defers → MR w0 s' M' w' → Q x.exit a' w') → code.wpIn (wide none) m P Q a w := by
    intro code c s env M w a kn kx Q hok hnt hL hm ⟨n, x, e, m', h1, h2⟩ hQ
    refine code_sound (rd := none) hmix hcs hkeep hokc code c s env M w a x e m' Q hok hnt h1 hL hm (fun l0 e => by cases e) fun s' a' w' g1 g2 g3 g4 g5 => hQ x e m' s' a' w' ?_ g1 g2 g3 g4 g5
    cases x <;> exact h2
  -- a pair, the second as the first ends
  have two : ∀ (p q : Code) (a' b' : C) (f : Env → Env), (∀ s e tmps, LR s e tmps → LR s (f e) tmps) →
      (∀ (s : Sim) (env : Env) (M : Mem) (w : World) (a : Act) (kn : Env → Mem → Prop) (kx : X → Env → Mem → Prop) (Q : Exit → Act → World → Prop), nt ≤ a.tmps.size → LR s env a.tmps → MR w0 s M w → WPc call a' env M kn kx →
        (∀ x e M' s' a' w', outP kn kx x e M' → s.le s' → LR s' e a'.tmps → a'.tmps.size = a.tmps.size → Marks s s' a'.defers a.defers → MR w0 s' M' w' → Q x.exit a' w') → p.wpIn (wide none) m P Q a w) →
      (∀ (s : Sim) (env : Env) (M : Mem) (w : World) (a : Act) (kn : Env → Mem → Prop) (kx : X → Env → Mem → Prop) (Q : Exit → Act → World → Prop), nt ≤ a.tmps.size → LR s env a.tmps → MR w0 s M w → WPc call b' env M kn kx →
        (∀ x e M' s' a' w', outP kn kx x e M' → s.le s' → LR s' e a'.tmps → a'.tmps.size = a.tmps.size → Marks s s' a'.defers a.defers → MR w0 s' M' w' → Q x.exit a' w') → q.wpIn (wide none) m P Q a w) →
      ∀ (s : Sim) (env : Env) (M : Mem) (w : World) (a : Act) (kn : Env → Mem → Prop) (kx : X → Env → Mem → Prop) (Q : Exit → Act → World → Prop), nt ≤ a.tmps.size → LR s env a.tmps → MR w0 s M w →
        WPc call a' env M (fun e m => WPc call b' (f e) m kn kx) kx →
        (∀ x e M' s' a' w', outP kn kx x e M' → s.le s' → LR s' e a'.tmps → a'.tmps.size = a.tmps.size → Marks s s' a'.defers a.defers → MR w0 s' M' w' → Q x.exit a' w') → (Code.seq p q).wpIn (wide none) m P Q a w := by
    intro p q a' b' f hf hp hq s env M w a kn kx Q hnt hL hm h hQ
    refine wpIn_seq (hp s env M w a _ kx _ hnt hL hm h fun x e M' s' a2 w' ho g1 g2 g3 g4 g5 => ?_)
    cases x with
    | nrm =>
      exact hq s' (f e) M' w' a2 kn kx Q (by omega) (hf _ _ _ g2) g5 ho fun x e M2 s2 a3 w2 ho k1 k2 k3 k4 k5 => hQ x e M2 s2 a3 w2 ho (g1.trans k1) k2 (by omega) (g4.trans k4 g1 k1) k5
    | ext i => exact hQ (.ext i) e M' s' a2 w' ho g1 g2 g3 g4 g5
    | ret => exact hQ .ret e M' s' a2 w' ho g1 g2 g3 g4 g5
  intro code
  induction code with
  | seq p q ihp ihq =>
    intro c s env M w a kn kx Q hok hnt hL hm h hQ
    cases c <;> simp only [okX] at hok <;> first | (simp only [okC] at hok; cases hok; done) | skip
    · rename_i p' q'
      simp only [Bool.and_eq_true] at hok
      exact two p q p' q' (fun e => e) (fun _ _ _ h => h) (fun s env M w a kn kx Q => ihp p' s env M w a kn kx Q hok.1) (fun s env M w a kn kx Q => ihq q' s env M w a kn kx Q hok.2) s env M w a kn kx Q hnt hL hm h hQ
    · rename_i p' outs q'
      simp only [Bool.and_eq_true] at hok
      exact two p q p' q' (fun e => e.keep outs) (fun _ _ _ h => h.keep outs) (fun s env M w a kn kx Q => ihp p' s env M w a kn kx Q hok.1) (fun s env M w a kn kx Q => ihq q' s env M w a kn kx Q hok.2) s env M w a kn kx Q hnt hL hm h hQ
  | cond cc p q ihp ihq =>
    intro c s env M w a kn kx Q hok hnt hL hm h hQ
    cases c <;> simp only [okX] at hok <;> first | (simp only [okC] at hok; cases hok; done) | skip
    rename_i cc' p' q'
    simp only [Bool.and_eq_true] at hok
    simp only [WPc] at h
    split at h
    · rename_i e
      exact wpIn_cond_true (okArg_ok hL hok.1.1 e).bool_inv (ihp p' s env M w a kn kx Q hok.1.2 hnt hL hm h hQ)
    · rename_i e
      exact wpIn_cond_false (okArg_ok hL hok.1.1 e).bool_inv (ihq q' s env M w a kn kx Q hok.2 hnt hL hm h hQ)
    · exact h.elim
  | block id p ih =>
    intro c s env M w a kn kx Q hok hnt hL hm h hQ
    cases c <;> simp only [okX] at hok <;> first | (simp only [okC] at hok; cases hok; done) | skip
    rename_i id' p'
    simp only [Bool.and_eq_true, beq_iff_eq] at hok
    obtain ⟨rfl, hok⟩ := hok
    simp only [WPc] at h
    refine wpIn_block (ih p' s env M w a _ _ _ hok hnt hL hm h fun x e M' s' a' w' ho g1 g2 g3 g4 g5 => ?_)
    cases x with
    | nrm => exact hQ .nrm e M' s' a' w' ho g1 g2 g3 g4 g5
    | ret => exact hQ .ret e M' s' a' w' ho g1 g2 g3 g4 g5
    | ext i =>
      simp only [outP] at ho
      simp only [X.exit, Exit.inBlock]
      split at ho
      · rename_i e1; rw [if_pos e1]; exact hQ .nrm e M' s' a' w' ho g1 g2 g3 g4 g5
      · rename_i e1; rw [if_neg e1]; exact hQ (.ext i) e M' s' a' w' ho g1 g2 g3 g4 g5
  | region id ops draw =>
    intro c s env M w a kn kx Q hok hnt hL hm h hQ
    cases draw with
    | false =>
      cases c <;> simp only [okX] at hok <;> first | (simp only [okC] at hok; cases hok; done) | skip
      exact leaf _ _ s env M w a kn kx Q hok hnt hL hm h hQ
    | true =>
      cases c <;> simp only [okX] at hok <;> first | (simp only [okC] at hok; cases hok; done) | skip
      rename_i is outs
      simp only [WPc] at h
      cases hx : isX is with
      | false => rw [hx] at h hok; exact leaf _ _ s env M w a kn kx Q hok hnt hL hm h hQ
      | true =>
        rw [hx] at h hok
        refine wpIn_region_any hmix ?_
        have hlen := (okT_parts hok).1
        simp only at h
        rw [hlen] at h
        exact tree_sound hcs (r := none) (n := m) hok (s0 := s) (a0 := a) hnt (fun s' a' w' L' M' g1 g2 g3 g4 g5 g6 => hQ .nrm _ M' s' a' w' g2 g1 (g3.keep outs) g4 (.of_eq g5) g6) ops.size 0 _ s env M a _ (by simp) (fun i hi => by simp [Array.getD]) (.refl s) hL rfl rfl hm.drew h
  | skip =>
    intro c s env M w a kn kx Q hok hnt hL hm h hQ
    cases c <;> simp only [okX] at hok <;> first | (simp only [okC] at hok; cases hok; done) | skip
    exact leaf _ _ s env M w a kn kx Q hok hnt hL hm ⟨0, .nrm, env, M, rfl, h⟩ hQ
  | ret =>
    intro c s env M w a kn kx Q hok hnt hL hm h hQ
    cases c <;> simp only [okX] at hok <;> first | (simp only [okC] at hok; cases hok; done) | skip
    exact leaf _ _ s env M w a kn kx Q hok hnt hL hm ⟨0, .ret, env, M, rfl, h⟩ hQ
  | exit id =>
    intro c s env M w a kn kx Q hok hnt hL hm h hQ
    cases c <;> simp only [okX] at hok <;> first | (simp only [okC] at hok; cases hok; done) | skip
    exact leaf _ _ s env M w a kn kx Q hok hnt hL hm ⟨0, .ext _, env, M, rfl, h⟩ hQ
  | loop p _ =>
    intro c s env M w a kn kx Q hok hnt hL hm h hQ
    cases c <;> simp only [okX] at hok <;> first | (simp only [okC] at hok; cases hok; done) | skip
    exact leaf _ _ s env M w a kn kx Q hok hnt hL hm h hQ
  | rangeFunc f ps p q _ _ =>
    intro c s env M w a kn kx Q hok hnt hL hm h hQ
    cases c <;> simp only [okX] at hok <;> first | (simp only [okC] at hok; cases hok; done) | skip
    exact leaf _ _ s env M w a kn kx Q hok hnt hL hm h hQ
  | _ =>
    intro c s env M w a kn kx Q hok hnt hL hm h hQ
    cases c <;> simp only [okX, okC] at hok <;> cases hok

end

def okFnX (P : Program) (f : Nat) (fn : IFn) : Bool :=
  match P.funcs[f]? with
  | some F => match F.body with
    | some code => decide (f < yb) && decide (F.name ≠ "runtime.NumGoroutine") && okX P F.ntmps code fn.body && okRes P F.results.toList fn.res
    | none => false
  | none => false

/-- The law's end: it answers 'true'. -/
def Yes (fn : IFn) : X → Env → Mem → Prop
  | .ext _, _, _ => False
  | _, e, m => ∃ rs, resVal e m fn.res = some rs ∧ packRes rs = .bool true

/-- A law that is true in whatever order is true. -/
theorem law_callsX {P : Program} {W : World} (hmix : P.follows .mixedOrders = true) {T : Nat → Option IFn} (hT : ∀ f fn, T f = some fn → okFn P f fn = true) (hO : ∀ f fn, T f = some fn → OrcSound P (okc0 P) f fn) {f : Nat} {fn : IFn} {args : List AV} {vs : List Value}
    (hok : okFnX P f fn = true) (hp : args.length = fn.params) (h : WPc (Am.Call T) fn.body (paramEnv 0 args) ⟨[], none⟩ (Yes fn .nrm) (Yes fn)) (hl : args.length = vs.length) (hv : ∀ (i : Nat) (x : AV) (v : Value), args[i]? = some x → vs[i]? = some v → VR (sim0 W) x v) :
    Calls P f vs.toArray W fun e W' => e = .returned (.bool true) ∧ RowKit.Below W.heap.size W W' := by
  have hkeep : ∀ f args M r M', Am.Call T f args M = some (r, M') → Keeps M M' := fun f args M r M' h => by
    obtain ⟨n, hn⟩ := call_some.1 h
    exact callN_keeps (T := T) (fun f fn h args M r M' e => (hO f fn h args M r M' e).1) n f args M r M' hn
  have hcs : CallSound P (base0 P W) (Am.Call T) := fun f args M r M' h => by
    obtain ⟨n, hn⟩ := call_some.1 h
    exact callN_sound (w0 := base0 P W) hmix hT hO (fun _ _ _ => Iff.rfl) n f args M r M' hn
  unfold okFnX at hok
  split at hok
  · rename_i F hF
    split at hok
    · rename_i code hb
      simp only [Bool.and_eq_true, decide_eq_true_eq] at hok
      obtain ⟨⟨⟨hyb, hname⟩, hc⟩, hr⟩ := hok
      rw [← callsIn_wide (n := 0)]
      refine callsIn_of_wp_marks hF hb trivial ?_
      have hsz : F.ntmps ≤ (vs.toArray ++ Array.replicate (F.ntmps - vs.toArray.size) undef).size := by simp; omega
      have hL : LR (sim0 W) (paramEnv 0 args) (vs.toArray ++ Array.replicate (F.ntmps - vs.toArray.size) undef) := by
        intro t v ht
        obtain ⟨_, h2⟩ := paramEnv_get args 0 t v ht
        rw [Nat.sub_zero] at h2
        have hlt : t < args.length := (List.getElem?_eq_some_iff.1 h2).1
        have hlt2 : t < vs.length := by omega
        refine ⟨by simp; omega, ?_⟩
        rw [Array.getD_eq_getD_getElem?, Array.getElem?_append_left (by simpa using hlt2)]
        simp only [List.getElem?_toArray, List.getElem?_eq_getElem hlt2, Option.getD_some]
        exact hv t v _ h2 (List.getElem?_eq_getElem hlt2)
      refine wpcode_sound hmix hcs hkeep (fun _ _ _ => Iff.rfl) code fn.body (sim0 W) (paramEnv 0 args) ⟨[], none⟩ W _ _ _ _ hc hsz hL (mr0 P W) h fun x e M' s' a' w' ho g1 g2 g3 g4 g5 => ?_
      have ho' : (x = .nrm ∨ x = .ret) ∧ ∃ rs, resVal e M' fn.res = some rs ∧ packRes rs = .bool true := by
        cases x with
        | nrm => exact ⟨.inl rfl, ho⟩
        | ret => exact ⟨.inr rfl, ho⟩
        | ext i => exact ho.elim
      obtain ⟨hx, rs, hrs, hpk⟩ := ho'
      obtain ⟨bs, hbs, hnd, hdf⟩ := g4
      rw [List.append_nil] at hbs
      have goal : LeavesInM (wide none) 0 P F a'.tmps (fun e W' => e = .returned (.bool true) ∧ RowKit.Below W.heap.size W W') a'.defers .returning w' := by
        rw [hbs]
        refine leaves_marks bs s' w' g1 g2 g5 hnd hdf ?_
        clear g1 g2 g5 hdf w' s'
        intro s' w' g1 g2 g5
        obtain ⟨v, q1, q2⟩ := results_run (P := P) g5 g2 hr hrs
        rw [hpk] at q2
        cases q2
        exact ⟨_, q1, rfl, g5.below⟩
      rcases hx with rfl | rfl
      · exact goal
      · exact goal
    · cases hok
  · cases hok

end Go.Am
namespace Go.Am
set_option linter.all false
open Go

theorem tree_inv {call : Nat → List AV → Mem → Option (AV × Mem)} {is : List (IOper × Nat × Nat)} {Q : Env → Mem → Prop} (I : (Nat → Bool) → Env → Mem → Prop)
    (hback : (is.zipIdx.all fun q => (List.range is.length).all fun j => !q.1.2.1.testBit j || decide (j < q.2)) = true)
    (step : ∀ (S : Nat → Bool) (L : Env) (M : Mem) (i : Nat) (p : IOper × Nat × Nat), I S L M → is[i]? = some p → S i = false → (∀ j, j < is.length → p.2.1.testBit j = true → S j = true) →
      ∃ v M', evOp call L M p.1.op = some (v, M') ∧ I (fun j => S j || decide (j = i)) (pushL p.1.dst v L) M')
    (fin : ∀ (S : Nat → Bool) (L : Env) (M : Mem), I S L M → (∀ j, j < is.length → S j = true) → Q L M) {L : Env} {M : Mem} (h : I (fun _ => false) L M) : Tree call is Q is.length 0 L M := by
  -- who may come up, as long as not all have been
  have all_of : ∀ done : Nat, readyX is done = [] → ∀ j, j < is.length → done.testBit j = true := by
    intro done hr j
    induction j using Nat.strongRecOn with
    | _ j ih =>
      intro hj
      cases hb : done.testBit j with
      | true => rfl
      | false =>
        exfalso
        have hm : j ∈ readyX is done := by
          unfold readyX
          rw [List.mem_filter]
          refine ⟨List.mem_range.2 hj, ?_⟩
          rw [hb, List.getElem?_eq_getElem hj]
          simp only [Bool.not_false, Bool.true_and, Option.map_some, Option.getD_some]
          unfold freeX
          rw [List.all_eq_true]
          intro k hk
          cases hkb : is[j].2.1.testBit k with
          | false => rfl
          | true =>
            have h1 := List.all_eq_true.1 hback (is[j], j) (by rw [List.mem_zipIdx_iff_getElem?]; exact List.getElem?_eq_getElem hj)
            have h2 := List.all_eq_true.1 h1 k hk
            simp only [hkb, Bool.not_true, Bool.false_or, decide_eq_true_eq] at h2
            simp only [Bool.not_true, Bool.false_or]
            exact ih k h2 (List.mem_range.1 hk)
        rw [hr] at hm
        cases hm
  have main : ∀ (fuel done : Nat) (S : Nat → Bool) (L : Env) (M : Mem), (∀ j, j < is.length → done.testBit j = S j) → ((List.range is.length).filter fun j => !S j).length ≤ fuel → I S L M → Tree call is Q fuel done L M := by
    intro fuel
    induction fuel with
    | zero =>
      intro done S L M hS hf hI
      have hall : ∀ j, j < is.length → S j = true := by
        intro j hj
        cases hb : S j with
        | true => rfl
        | false =>
          exfalso
          have h0 : ((List.range is.length).filter fun j => !S j) = [] := List.eq_nil_of_length_eq_zero (by omega)
          have : j ∈ (List.range is.length).filter fun j => !S j := List.mem_filter.2 ⟨List.mem_range.2 hj, by rw [hb]; rfl⟩
          rw [h0] at this
          cases this
      refine ⟨?_, fin S L M hI hall⟩
      apply List.eq_nil_iff_forall_not_mem.2
      intro j hj
      unfold readyX at hj
      rw [List.mem_filter, List.mem_range] at hj
      rw [hS j hj.1, hall j hj.1] at hj
      simp at hj
    | succ fuel ih =>
      intro done S L M hS hf hI
      refine ⟨fun hr => fin S L M hI fun j hj => by rw [← hS j hj]; exact all_of done hr j hj, fun i hi => ?_⟩
      unfold readyX at hi
      rw [List.mem_filter, List.mem_range] at hi
      obtain ⟨hil, hi2⟩ := hi
      rw [List.getElem?_eq_getElem hil] at hi2
      simp only [Option.map_some, Option.getD_some, Bool.and_eq_true, Bool.not_eq_true'] at hi2
      obtain ⟨h0, h1⟩ := hi2
      rw [hS i hil] at h0
      unfold freeX at h1
      rw [List.all_eq_true] at h1
      obtain ⟨v, M', g1, g2⟩ := step S L M i is[i] hI (List.getElem?_eq_getElem hil) h0 fun j hj hb => by
        have := h1 j (List.mem_range.2 hj)
        rw [hb, hS j hj] at this
        simpa using this
      refine ⟨is[i], v, M', List.getElem?_eq_getElem hil, g1, ih _ _ _ _ (fun j hj => ?_) ?_ g2⟩
      · rw [Nat.testBit_or, Nat.testBit_two_pow, hS j hj]
        congr 1
        rw [decide_eq_decide]
        exact eq_comm
      · have hsub : ((List.range is.length).filter fun j => !(S j || decide (j = i))).length < ((List.range is.length).filter fun j => !S j).length := by
          have e1 : ((List.range is.length).filter fun j => !(S j || decide (j = i))) = ((List.range is.length).filter fun j => !S j).filter fun j => !decide (j = i) := by
            rw [List.filter_filter]
            congr 1
            funext j
            cases S j <;> simp
          rw [e1]
          refine Nat.lt_of_le_of_ne (List.length_filter_le _ _) fun e => ?_
          have h2 := List.length_filter_eq_length_iff.1 e i (List.mem_filter.2 ⟨List.mem_range.2 hil, by rw [h0]; rfl⟩)
          simp at h2
        omega
  refine main is.length 0 (fun _ => false) L M (fun j _ => by simp) ?_ h
  exact Nat.le_trans (List.length_filter_le _ _) (by simp)

/-! What operations tell. -/

theorem eo_mov {call : Nat → List AV → Mem → Option (AV × Mem)} {L : Env} {M : Mem} {t : Nat} {v : AV} (h : L.get t = some v) : evOp call L M (.mov (.t t)) = some (v, M) := by
  simp only [evOp, Arg.ev, h]

theorem eo_load {call : Nat → List AV → Mem → Option (AV × Mem)} {L : Env} {M : Mem} {t p : Nat} {cs : List AV} (h : L.get t = some (.ptr p 0 0)) (ho : M.objs[p]? = some (.row 0 cs)) : evOp call L M (.load (some cs.length) (.t t)) = some (.agg cs, M) := by
  simp only [evOp, Arg.ev, h, Mem.load, ho, if_true, partOf]
  simp

theorem eo_new {call : Nat → List AV → Mem → Option (AV × Mem)} {L : Env} {M : Mem} {cs : List AV} : evOp call L M (.new cs) = some (.ptr M.objs.length 0 0, M.push (.row 0 cs)) := rfl

theorem eo_store {call : Nat → List AV → Mem → Option (AV × Mem)} {L : Env} {M : Mem} {t u p : Nat} {cs cs' : List AV} (h : L.get t = some (.ptr p 0 0)) (hx : L.get u = some (.agg cs')) (ho : M.objs[p]? = some (.row 0 cs)) (hl : cs'.length = cs.length) (hs : (AV.agg cs').solid = true) :
    evOp call L M (.store cs.length (.t t) (.t u)) = some (.tuple [], M.put p (.row 0 cs')) := by
  simp only [evOp, Arg.ev, h, hx, Mem.store, ho]
  rw [if_pos ⟨trivial, by simpa [AV.cells] using hl, by omega, hs⟩]
  simp only [setCells, AV.cells, List.take_zero, List.nil_append, Nat.zero_add, hl, List.drop_length, List.append_nil]

theorem eo_call1 {call : Nat → List AV → Mem → Option (AV × Mem)} {L : Env} {M : Mem} {f t : Nat} {v : AV} {P : AV → Mem → Prop} (h : L.get t = some v) (hc : Tells (call f [v.untag] M) P) : ∃ r M', evOp call L M (.call (.f f) [.t t] false) = some (r, M') ∧ P r M' := by
  obtain ⟨r, m, h1, h2⟩ := hc.out
  exact ⟨r, m, by simp only [evOp, Arg.ev, evArgs, h]; simpa using h1, h2⟩

theorem eo_call2 {call : Nat → List AV → Mem → Option (AV × Mem)} {L : Env} {M : Mem} {f t u : Nat} {v w : AV} {P : AV → Mem → Prop} (h : L.get t = some v) (h' : L.get u = some w) (hc : Tells (call f [v.untag, w.untag] M) P) : ∃ r M', evOp call L M (.call (.f f) [.t t, .t u] false) = some (r, M') ∧ P r M' := by
  obtain ⟨r, m, h1, h2⟩ := hc.out
  exact ⟨r, m, by simp only [evOp, Arg.ev, evArgs, h, h']; simpa using h1, h2⟩

theorem get_push {d t : Nat} {v : AV} {L : Env} : (pushL (some d) v L).get t = if d = t then some v else L.get t := by
  rw [pushL_get]; simp

/-! What is asked for, in place of an answer. -/

theorem tells_some {r : AV} {m : Mem} {P : AV → Mem → Prop} (h : P r m) : Tells (some (r, m)) P := by
  unfold Tells; exact ⟨r, m, rfl, h⟩

theorem tells_asN {kn : Env → Mem → Prop} {e : Env} {m : Mem} (h : kn e m) : Tells (asN kn e m) fun _ _ => True := by
  unfold asN; rw [if_pos h]; exact tells_some trivial
theorem tells_asX {kx : X → Env → Mem → Prop} {x : X} {e : Env} {m : Mem} (h : kx x e m) : Tells (asX kx x e m) fun _ _ => True := by
  unfold asX; rw [if_pos h]; exact tells_some trivial
theorem wpc_tells {call : Nat → List AV → Mem → Option (AV × Mem)} {n : Nat} {c : C} {env : Env} {M : Mem} {kn : Env → Mem → Prop} {kx : X → Env → Mem → Prop} {x : Rho} (hn : noX c = true) (he : evK call n c env M (asN kn) (asX kx) = x) (h : Tells x fun _ _ => True) : WPc call c env M kn kx := by
  obtain ⟨r, m, h1, _⟩ := h.out
  exact wpc_K hn (he.trans h1)

end Go.Am
