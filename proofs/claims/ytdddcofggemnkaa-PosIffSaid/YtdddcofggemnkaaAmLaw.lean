/- An abstract machine for the part of Go that this program uses: laws to reckon with it, from the head of the code on. -/
import Derived.Test.YtdddcofggemnkaaAmEval
import Derived.Attr
namespace Go.Am
set_option linter.all false
open Go

variable {T : Nat → Option IFn}

/-- What follows an end that is plain. -/
def thenE (r : Res) (k : Env → Mem → Res) : Res :=
  match r with
  | some (.nrm, e, m) => k e m
  | r => r

def catchE (r : Res) (id : Nat) : Res :=
  match r with
  | some (.ext i, e, m) => if i = id then some (.nrm, e, m) else some (.ext i, e, m)
  | r => r

@[simp ↓, simp, go_sem ↓, go_sem] theorem thenE_nrm {e : Env} {m : Mem} {k : Env → Mem → Res} : thenE (some (.nrm, e, m)) k = k e m := rfl
@[simp, go_sem ↓, go_sem] theorem thenE_ext {i : Nat} {e : Env} {m : Mem} {k : Env → Mem → Res} : thenE (some (.ext i, e, m)) k = some (.ext i, e, m) := rfl
@[simp, go_sem ↓, go_sem] theorem thenE_ret {e : Env} {m : Mem} {k : Env → Mem → Res} : thenE (some (.ret, e, m)) k = some (.ret, e, m) := rfl
theorem thenE_ite {p : Prop} [Decidable p] {a b : Res} {k : Env → Mem → Res} : thenE (if p then a else b) k = if p then thenE a k else thenE b k := by split <;> rfl
@[simp, go_sem ↓, go_sem] theorem catchE_nrm {e : Env} {m : Mem} {i : Nat} : catchE (some (.nrm, e, m)) i = some (.nrm, e, m) := rfl
@[simp, go_sem ↓, go_sem] theorem catchE_ext {i j : Nat} {e : Env} {m : Mem} : catchE (some (.ext i, e, m)) j = if i = j then some (.nrm, e, m) else some (.ext i, e, m) := rfl
@[simp, go_sem ↓, go_sem] theorem catchE_ret {e : Env} {m : Mem} {i : Nat} : catchE (some (.ret, e, m)) i = some (.ret, e, m) := rfl
theorem catchE_ite {p : Prop} [Decidable p] {a b : Res} {i : Nat} : catchE (if p then a else b) i = if p then catchE a i else catchE b i := by split <;> rfl


/-- A piece of code by its text. -/
theorem unf {c c' : C} (h : c = c') {e : Env} {m : Mem} : Ev T c e m = Ev T c' e m := by rw [h]

/-- A region whose order is that of the text. -/
noncomputable def evR (T : Nat → Option IFn) (ops : List IOper) (L : Env) (M : Mem) (outs : List Nat) : Res :=
  match evOps (Call T) ops L M with
  | none => none
  | some (L, M') => some (.nrm, L.keep outs, M')

noncomputable def evA (T : Nat → Option IFn) (L : Env) (M : Mem) (op : IOp) : Option (AV × Mem) := evOp (Call T) L M op

@[simp, go_sem] theorem evR_nil {L : Env} {M : Mem} {outs : List Nat} : evR T [] L M outs = some (.nrm, L.keep outs, M) := rfl

noncomputable def condE (T : Nat → Option IFn) (c : Option AV) (a b : C) (env : Env) (M : Mem) : Res :=
  match c with
  | some (.bool true) => Ev T a env M
  | some (.bool false) => Ev T b env M
  | _ => none
section
variable {a b : C} {env : Env} {M : Mem}
@[simp ↓, simp, go_sem ↓, go_sem] theorem condE_true : condE T (some (.bool true)) a b env M = Ev T a env M := rfl
@[simp ↓, simp, go_sem ↓, go_sem] theorem condE_false : condE T (some (.bool false)) a b env M = Ev T b env M := rfl
theorem condE_bool {c : Bool} : condE T (some (.bool c)) a b env M = if c = true then Ev T a env M else Ev T b env M := by cases c <;> rfl
theorem condE_pos {p : Prop} [Decidable p] (h : p) : condE T (some (.bool (decide p))) a b env M = Ev T a env M := by simp [h]
theorem condE_neg {p : Prop} [Decidable p] (h : ¬ p) : condE T (some (.bool (decide p))) a b env M = Ev T b env M := by simp [h]
@[simp low, go_sem low] theorem condE_decide {p : Prop} [Decidable p] : condE T (some (.bool (decide p))) a b env M = if p then Ev T a env M else Ev T b env M := by
  by_cases h : p <;> simp [h]
@[simp, go_sem] theorem condE_not {c : Bool} : condE T (some (.bool (!c))) a b env M = condE T (some (.bool c)) b a env M := by cases c <;> rfl
end

/-- What follows one operation. -/
noncomputable def stepR (T : Nat → Option IFn) (r : Option (AV × Mem)) (d : Option Nat) (os : List IOper) (L : Env) (outs : List Nat) : Res :=
  match r with
  | none => none
  | some (v, m) => evR T os (pushL d v L) m outs
@[go_sem ↓, go_sem] theorem stepR_some {v : AV} {m : Mem} {d : Option Nat} {os : List IOper} {L : Env} {outs : List Nat} : stepR T (some (v, m)) d os L outs = evR T os (pushL d v L) m outs := rfl

/-- An operation under a guard. -/
noncomputable def guardR (T : Nat → Option IFn) (c : Option AV) (w : Bool) (op : IOp) (d : Option Nat) (os : List IOper) (L : Env) (M : Mem) (outs : List Nat) : Res :=
  match c with
  | some (.bool c) => if c = w then stepR T (evA T L M op) d os L outs else evR T os (pushL d (.tuple []) L) M outs
  | some (.tuple []) => evR T os (pushL d (.tuple []) L) M outs
  | _ => none
section
variable {op : IOp} {d : Option Nat} {os : List IOper} {L : Env} {M : Mem} {outs : List Nat} {w : Bool}
@[simp ↓, simp, go_sem ↓, go_sem] theorem guardR_true : guardR T (some (.bool true)) true op d os L M outs = stepR T (evA T L M op) d os L outs := rfl
@[simp ↓, simp, go_sem ↓, go_sem] theorem guardR_false : guardR T (some (.bool false)) false op d os L M outs = stepR T (evA T L M op) d os L outs := rfl
@[simp ↓, simp, go_sem ↓, go_sem] theorem guardR_trueF : guardR T (some (.bool true)) false op d os L M outs = evR T os (pushL d (.tuple []) L) M outs := rfl
@[simp ↓, simp, go_sem ↓, go_sem] theorem guardR_falseT : guardR T (some (.bool false)) true op d os L M outs = evR T os (pushL d (.tuple []) L) M outs := rfl
@[simp ↓, simp, go_sem ↓, go_sem] theorem guardR_none : guardR T (some (.tuple [])) w op d os L M outs = evR T os (pushL d (.tuple []) L) M outs := rfl
theorem guardR_bool {c : Bool} : guardR T (some (.bool c)) w op d os L M outs = if c = w then stepR T (evA T L M op) d os L outs else evR T os (pushL d (.tuple []) L) M outs := rfl
theorem guardR_pos {p : Prop} [Decidable p] (h : p) : guardR T (some (.bool (decide p))) true op d os L M outs = stepR T (evA T L M op) d os L outs := by simp [h]
theorem guardR_neg {p : Prop} [Decidable p] (h : ¬ p) : guardR T (some (.bool (decide p))) true op d os L M outs = evR T os (pushL d (.tuple []) L) M outs := by simp [h]
theorem guardR_posF {p : Prop} [Decidable p] (h : p) : guardR T (some (.bool (decide p))) false op d os L M outs = evR T os (pushL d (.tuple []) L) M outs := by simp [h]
theorem guardR_negF {p : Prop} [Decidable p] (h : ¬ p) : guardR T (some (.bool (decide p))) false op d os L M outs = stepR T (evA T L M op) d os L outs := by simp [h]
@[simp low, go_sem low] theorem guardR_decide {p : Prop} [Decidable p] : guardR T (some (.bool (decide p))) true op d os L M outs = if p then stepR T (evA T L M op) d os L outs else evR T os (pushL d (.tuple []) L) M outs := by
  by_cases h : p <;> simp [h]
@[simp low, go_sem low] theorem guardR_decideF {p : Prop} [Decidable p] : guardR T (some (.bool (decide p))) false op d os L M outs = if p then evR T os (pushL d (.tuple []) L) M outs else stepR T (evA T L M op) d os L outs := by
  by_cases h : p <;> simp [h]
end

@[simp, go_sem] theorem evR_cons {d : Option Nat} {op : IOp} {os : List IOper} {L : Env} {M : Mem} {outs : List Nat} : evR T (⟨d, op, none⟩ :: os) L M outs = stepR T (evA T L M op) d os L outs := by
  simp only [evR, evOps, guardOk, evA, stepR]
  cases h : evOp (Call T) L M op with
  | none => rfl
  | some r => obtain ⟨v, m⟩ := r; rfl

@[simp, go_sem] theorem evR_guard {d : Option Nat} {op : IOp} {t : Nat} {w : Bool} {os : List IOper} {L : Env} {M : Mem} {outs : List Nat} : evR T (⟨d, op, some (t, w)⟩ :: os) L M outs = guardR T (L.get t) w op d os L M outs := by
  unfold guardR stepR evR evA
  rw [evOps]
  unfold guardOk
  simp only
  cases L.get t with
  | none => rfl
  | some c =>
    cases c with
    | bool b =>
      simp only
      by_cases hbw : b = w
      · simp only [hbw, beq_self_eq_true, if_true]
        cases h : evOp (Call T) L M op with
        | none => rfl
        | some r => obtain ⟨v, m⟩ := r; rfl
      · have : (b == w) = false := by simp [hbw]
        simp only [this, hbw, if_false]
    | tuple xs => cases xs <;> rfl
    | _ => rfl

@[simp, go_sem] theorem pushL_some {d : Nat} {v : AV} {L : Env} : pushL (some d) v L = (d, v) :: L := rfl
@[simp, go_sem] theorem pushL_none {v : AV} {L : Env} : pushL none v L = L := rfl
@[simp, go_sem] theorem get_cons {s t : Nat} {v : AV} {e : Env} : Env.get ((s, v) :: e) t = if s = t then some v else Env.get e t := rfl
@[simp, go_sem] theorem get_nil {t : Nat} : Env.get [] t = none := rfl
@[simp, go_sem] theorem keep_nil {e : Env} : Env.keep e [] = [] := rfl

def consE (t : Nat) (v : Option AV) (e : Env) : Env :=
  match v with
  | some v => (t, v) :: e
  | none => e
@[simp, go_sem] theorem consE_some {t : Nat} {v : AV} {e : Env} : consE t (some v) e = (t, v) :: e := rfl
@[simp, go_sem] theorem consE_none {t : Nat} {e : Env} : consE t none e = e := rfl
@[simp, go_sem] theorem keep_cons {e : Env} {t : Nat} {ts : List Nat} : Env.keep e (t :: ts) = consE t (e.get t) (e.keep ts) := by
  simp only [Env.keep, consE]; split <;> simp_all

@[simp, go_sem] theorem Ev_skip {env : Env} {M : Mem} : Ev T .skip env M = some (.nrm, env, M) := ev_skip
@[simp, go_sem] theorem Ev_exit {id : Nat} {env : Env} {M : Mem} : Ev T (.exit id) env M = some (.ext id, env, M) := ev_exit
@[simp, go_sem] theorem Ev_ret {env : Env} {M : Mem} : Ev T .ret env M = some (.ret, env, M) := ev_ret
@[simp, go_sem] theorem Ev_reg {ops : List IOper} {outs : List Nat} {env : Env} {M : Mem} : Ev T (.reg ops outs) env M = evR T ops env M outs := ev_reg
@[simp, go_sem] theorem Ev_seq {a b : C} {env : Env} {M : Mem} : Ev T (.seq a b) env M = thenE (Ev T a env M) (Ev T b) := by
  rw [ev_seq]; unfold thenE; rfl
@[simp, go_sem] theorem Ev_seqT {a b : C} {outs : List Nat} {env : Env} {M : Mem} : Ev T (.seqT a outs b) env M = thenE (Ev T a env M) (fun e m => Ev T b (e.keep outs) m) := by
  rw [ev_seqT]; unfold thenE; rfl
@[simp, go_sem] theorem Ev_cond {c : Arg} {a b : C} {env : Env} {M : Mem} : Ev T (.cond c a b) env M = condE T (c.ev env) a b env M := by
  rw [ev_cond]; unfold condE; rfl
@[simp, go_sem] theorem Ev_block {id : Nat} {a : C} {env : Env} {M : Mem} : Ev T (.block id a) env M = catchE (Ev T a env M) id := by
  rw [ev_block]; unfold catchE; rfl
theorem get_keep {e : Env} {t : Nat} : ∀ {ts : List Nat}, t ∈ ts → (e.keep ts).get t = e.get t := by
  intro ts
  induction ts with
  | nil => intro h; cases h
  | cons s ts ih =>
    intro h
    rw [keep_cons]
    cases hs : e.get s with
    | none =>
      simp only [consE_none]
      by_cases hts : t ∈ ts
      · exact ih hts
      · rcases List.mem_cons.1 h with rfl | h1
        · have : ∀ us : List Nat, t ∉ us → (e.keep us).get t = none := by
            intro us
            induction us with
            | nil => intro _; rfl
            | cons u us ihu =>
              intro hu
              rw [keep_cons]
              have h2 : t ∉ us := fun h => hu (List.mem_cons_of_mem _ h)
              have h3 : ¬ u = t := fun h => hu (by rw [h]; exact List.mem_cons_self)
              cases e.get u with
              | none => simpa using ihu h2
              | some v => simp [h3, ihu h2]
          rw [this ts hts, hs]
        · exact absurd h1 hts
    | some v =>
      simp only [consE_some, get_cons]
      by_cases hst : s = t
      · subst hst; simp [hs]
      · simp only [hst, if_false]
        rcases List.mem_cons.1 h with rfl | h1
        · exact absurd rfl hst
        · exact ih h1
theorem keep_keep {e : Env} {ts : List Nat} : (e.keep ts).keep ts = e.keep ts := by
  have : ∀ us : List Nat, (∀ t ∈ us, t ∈ ts) → (e.keep ts).keep us = e.keep us := by
    intro us
    induction us with
    | nil => intro _; rfl
    | cons u us ih =>
      intro h
      rw [keep_cons, keep_cons, get_keep (h u List.mem_cons_self), ih fun t ht => h t (List.mem_cons_of_mem _ ht)]
  exact this ts fun _ h => h
@[simp, go_sem] theorem Ev_loop {keep : List Nat} {pop : Bool} {a : C} {env : Env} {M : Mem} : Ev T (.loop keep pop a) env M = It T a keep (if pop then some (M.objs.length, M.bad) else none) (env.keep keep) M := by
  rw [ev_loop, it_step, it_step (env := env.keep keep), keep_keep]

/-- A loop's rounds behind the first. -/
noncomputable def ItK (T : Nat → Option IFn) (a : C) (keep : List Nat) (pop : Option (Nat × Option Nat)) (env : Env) (M : Mem) : Res := It T a keep pop env M
@[go_sem] theorem ItK_eq {a : C} {keep : List Nat} {pop : Option (Nat × Option Nat)} {env : Env} {M : Mem} : ItK T a keep pop env M = It T a keep pop (env.keep keep) M := by
  unfold ItK
  rw [it_step, it_step (env := env.keep keep), keep_keep]
theorem It_step {a : C} {keep : List Nat} {pop : Option (Nat × Option Nat)} {env : Env} {M : Mem} : It T a keep pop env M = thenE (Ev T a (env.keep keep) (popAt pop (env.keep keep) M)) (ItK T a keep pop) := by
  rw [it_step]; unfold thenE ItK; rfl

/-! A region whose order is open, and in which no operation turns the memory. -/

noncomputable def rawD (T : Nat → Option IFn) (ops : List (IOper × Nat × Nat)) (outs : List Nat) (env : Env) (M : Mem) : Res := Ev T (.regD ops outs) env M

open Classical in
noncomputable def same {β : Type} (m M : Mem) (a : Option β) : Option β := if m = M then a else none
@[simp, go_sem] theorem same_self {β : Type} {M : Mem} {a : Option β} : same M M a = a := by simp [same]

noncomputable def evP (T : Nat → Option IFn) : List (IOper × Nat × Nat) → Env → Mem → List Nat → Res
  | [], L, M, outs => some (.nrm, L.keep outs, M)
  | (⟨d, op, g⟩, _) :: os, L, M, outs => match guardOk L g with
    | none => none
    | some false => evP T os (pushL d (.tuple []) L) M outs
    | some true => match evA T L M op with
      | none => none
      | some (v, m) => same m M (evP T os (pushL d v L) M outs)

/-- What follows one operation. -/
noncomputable def stepP (T : Nat → Option IFn) (r : Option (AV × Mem)) (M : Mem) (d : Option Nat) (os : List (IOper × Nat × Nat)) (L : Env) (outs : List Nat) : Res :=
  match r with
  | none => none
  | some (v, m) => same m M (evP T os (pushL d v L) M outs)
@[go_sem ↓, go_sem] theorem stepP_some {v : AV} {m M : Mem} {d : Option Nat} {os : List (IOper × Nat × Nat)} {L : Env} {outs : List Nat} : stepP T (some (v, m)) M d os L outs = same m M (evP T os (pushL d v L) M outs) := rfl

def orElseD (a b : Res) : Res :=
  match a with
  | some r => some r
  | none => b
@[simp, go_sem ↓, go_sem] theorem orElseD_some {r : X × Env × Mem} {b : Res} : orElseD (some r) b = some r := rfl
@[simp, go_sem] theorem orElseD_ite {p : Prop} [Decidable p] {a b c : Res} : orElseD (if p then a else b) c = if p then orElseD a c else orElseD b c := by split <;> rfl

mutual
theorem AV.beq_self : ∀ v : AV, AV.beq v v = true
  | .bool _ | .int _ _ | .str _ | .nilptr | .map _ | .nilmap | .yield _ | .nilfunc | .niliface | .ref _ _ _ _ | .ptr _ _ _ => by simp [AV.beq]
  | .list _ _ xs => by simp [AV.beq, AV.beqs_self xs]
  | .cptr x => by simp [AV.beq, AV.beq_self x]
  | .func _ xs ys => by simp [AV.beq, AV.beqs_self xs, AV.beqs_self ys]
  | .iface _ x => by simp [AV.beq, AV.beq_self x]
  | .agg xs => by simp [AV.beq, AV.beqs_self xs]
  | .tuple xs => by simp [AV.beq, AV.beqs_self xs]
theorem AV.beqs_self : ∀ xs : List AV, AV.beqs xs xs = true
  | [] => rfl
  | x :: xs => by simp [AV.beqs, AV.beq_self x, AV.beqs_self xs]
end

theorem evOps_fst {call : Fun} {L : Env} {M : Mem} {op : IOp} (hl : op.looks = true) {v : AV} {m : Mem} (h : evOp call L M op = some (v, m)) : m = M := by
  cases op <;> simp only [IOp.looks] at hl <;> first | (cases hl; done) | skip
  all_goals (simp only [evOp] at h; repeat' split at h) <;> first | (cases h; done) | (cases h; rfl)

theorem stays_same {call : Fun} {op : IOp} {L : Env} {v : AV} {M : Mem} {ms : List Mem} (hms : ∀ m ∈ ms, m = M) {m : Mem} (h : evOp call L M op = some (v, m)) : ∀ (n lo : Nat), lo + n ≤ ms.length → stays call op L v ms lo n = true := by
  intro n
  induction n with
  | zero => intro lo _; rfl
  | succ n ih =>
    intro lo hlo
    have hg : ms[lo]? = some ms[lo] := List.getElem?_eq_getElem (by omega)
    have hM : ms[lo] = M := hms _ (List.getElem_mem _)
    simp only [stays, hg, hM, h, AV.beq_self, Bool.true_and]
    exact ih (lo + 1) (by omega)

/-- Do all ranges end within so many memories? -/
def fitsD (n : Nat) : List (IOper × Nat × Nat) → Bool
  | [] => true
  | (o, lo, k) :: os => (!o.op.looks || decide (lo + k ≤ n)) && fitsD n os

def effs : List (IOper × Nat × Nat) → Nat
  | [] => 0
  | (o, _) :: os => (if o.op.isEff then 1 else 0) + effs os

/-- What is met, where nothing turns the memory: each value is what the operation yields there. -/
theorem evP_run : ∀ {os : List (IOper × Nat × Nat)} {L : Env} {M : Mem} {outs : List Nat} {r}, evP T os L M outs = some r → ∀ {ms : List Mem}, (∀ m ∈ ms, m = M) →
    ∃ L' ms' tr, evOpsD (Call T) os L M ms = some (L', M, ms', tr) ∧ r = (.nrm, L'.keep outs, M) ∧ (∀ m ∈ ms', m = M) ∧ ms'.length = ms.length + effs os ∧
      ∀ big : List Mem, (∀ m ∈ big, m = M) → fitsD big.length os = true → stayAll (Call T) big os tr = true := by
  intro os
  induction os with
  | nil =>
    intro L M outs r h ms hms
    simp only [evP, Option.some.injEq] at h
    exact ⟨L, ms, [], rfl, h.symm, hms, rfl, fun _ _ _ => rfl⟩
  | cons o os ih =>
    intro L M outs r h ms hms
    obtain ⟨⟨d, op, g⟩, lo, k⟩ := o
    have hms1 : ∀ m ∈ (if op.isEff then ms ++ [M] else ms), m = M := by
      intro m hm
      split at hm
      · rcases List.mem_append.1 hm with h1 | h1
        · exact hms m h1
        · simpa using h1
      · exact hms m hm
    have hlen : (if op.isEff then ms ++ [M] else ms).length = ms.length + (if op.isEff then 1 else 0) := by split <;> simp
    have run : ∀ (v : AV) (m : Mem), evA T L M op = some (v, m) → same m M (evP T os (pushL d v L) M outs) = some r → guardOk L g = some true →
        ∃ L' ms' tr, evOpsD (Call T) ((⟨d, op, g⟩, lo, k) :: os) L M ms = some (L', M, ms', tr) ∧ r = (.nrm, L'.keep outs, M) ∧ (∀ m ∈ ms', m = M) ∧ ms'.length = ms.length + effs ((⟨d, op, g⟩, lo, k) :: os) ∧
          ∀ big : List Mem, (∀ m ∈ big, m = M) → fitsD big.length ((⟨d, op, g⟩, lo, k) :: os) = true → stayAll (Call T) big ((⟨d, op, g⟩, lo, k) :: os) tr = true := by
      intro v m hv hs hg
      by_cases hmM : m = M
      · subst hmM
        rw [same_self] at hs
        obtain ⟨L', ms', tr, g1, g2, g3, g4, g5⟩ := ih hs hms1
        refine ⟨L', ms', (L, v, true) :: tr, ?_, g2, g3, ?_, ?_⟩
        · simp only [evA] at hv
          simp only [evOpsD, hg, hv, g1]
        · simp only [effs]; omega
        · intro big hb hf
          simp only [fitsD, Bool.and_eq_true, Bool.or_eq_true, decide_eq_true_eq, Bool.not_eq_true'] at hf
          simp only [stayAll, g5 big hb hf.2, Bool.and_true, Bool.true_and]
          split
          · rename_i hl
            rcases hf.1 with h1 | h1
            · rw [hl] at h1; cases h1
            · exact stays_same hb hv _ _ h1
          · rfl
      · simp [same, hmM] at hs
    have skp : guardOk L g = some false → evP T os (pushL d (.tuple []) L) M outs = some r →
        ∃ L' ms' tr, evOpsD (Call T) ((⟨d, op, g⟩, lo, k) :: os) L M ms = some (L', M, ms', tr) ∧ r = (.nrm, L'.keep outs, M) ∧ (∀ m ∈ ms', m = M) ∧ ms'.length = ms.length + effs ((⟨d, op, g⟩, lo, k) :: os) ∧
          ∀ big : List Mem, (∀ m ∈ big, m = M) → fitsD big.length ((⟨d, op, g⟩, lo, k) :: os) = true → stayAll (Call T) big ((⟨d, op, g⟩, lo, k) :: os) tr = true := by
      intro hg hs
      obtain ⟨L', ms', tr, g1, g2, g3, g4, g5⟩ := ih hs hms1
      refine ⟨L', ms', (L, .tuple [], false) :: tr, ?_, g2, g3, ?_, ?_⟩
      · simp only [evOpsD, hg, g1]
      · simp only [effs]; omega
      · intro big hb hf
        simp only [fitsD, Bool.and_eq_true] at hf
        simp only [stayAll, g5 big hb hf.2, Bool.and_true, Bool.false_and]
        rfl
    simp only [evP] at h
    split at h
    · cases h
    · rename_i hg; exact skp hg h
    · rename_i hg
      split at h
      · cases h
      · rename_i v m hv
        exact run v m hv h hg

theorem Ev_regD {ops : List (IOper × Nat × Nat)} {outs : List Nat} {env : Env} {M : Mem} (hf : fitsD (1 + effs ops) ops = true) : Ev T (.regD ops outs) env M = orElseD (evP T ops env M outs) (rawD T ops outs env M) := by
  cases h : evP T ops env M outs with
  | none => rfl
  | some r =>
    obtain ⟨L', ms', tr, g1, g2, g3, g4, g5⟩ := evP_run h (ms := [M]) (by simp)
    rw [ev_regD, g1, orElseD_some]
    simp only
    rw [g5 ms' g3 (by rw [g4]; exact hf), g2, if_pos rfl]

/-- The operations of a region by their text. -/
theorem unfP {d d' : List (IOper × Nat × Nat)} (h : d = d') {L : Env} {M : Mem} {outs : List Nat} : evP T d L M outs = evP T d' L M outs := by rw [h]
@[simp, go_sem] theorem evP_nil {L : Env} {M : Mem} {outs : List Nat} : evP T [] L M outs = some (.nrm, L.keep outs, M) := rfl
@[simp, go_sem] theorem evP_cons {d : Option Nat} {op : IOp} {q : Nat × Nat} {os : List (IOper × Nat × Nat)} {L : Env} {M : Mem} {outs : List Nat} : evP T ((⟨d, op, none⟩, q) :: os) L M outs = stepP T (evA T L M op) M d os L outs := rfl
/-- An operation under a guard. -/
noncomputable def guardP (T : Nat → Option IFn) (c : Option AV) (w : Bool) (op : IOp) (d : Option Nat) (os : List (IOper × Nat × Nat)) (L : Env) (M : Mem) (outs : List Nat) : Res :=
  match c with
  | some (.bool c) => if c = w then stepP T (evA T L M op) M d os L outs else evP T os (pushL d (.tuple []) L) M outs
  | some (.tuple []) => evP T os (pushL d (.tuple []) L) M outs
  | _ => none
section
variable {op : IOp} {d : Option Nat} {os : List (IOper × Nat × Nat)} {L : Env} {M : Mem} {outs : List Nat} {w : Bool}
@[simp ↓, simp, go_sem ↓, go_sem] theorem guardP_true : guardP T (some (.bool true)) true op d os L M outs = stepP T (evA T L M op) M d os L outs := rfl
@[simp ↓, simp, go_sem ↓, go_sem] theorem guardP_false : guardP T (some (.bool false)) false op d os L M outs = stepP T (evA T L M op) M d os L outs := rfl
@[simp ↓, simp, go_sem ↓, go_sem] theorem guardP_trueF : guardP T (some (.bool true)) false op d os L M outs = evP T os (pushL d (.tuple []) L) M outs := rfl
@[simp ↓, simp, go_sem ↓, go_sem] theorem guardP_falseT : guardP T (some (.bool false)) true op d os L M outs = evP T os (pushL d (.tuple []) L) M outs := rfl
@[simp ↓, simp, go_sem ↓, go_sem] theorem guardP_none : guardP T (some (.tuple [])) w op d os L M outs = evP T os (pushL d (.tuple []) L) M outs := rfl
theorem guardP_bool {c : Bool} : guardP T (some (.bool c)) w op d os L M outs = if c = w then stepP T (evA T L M op) M d os L outs else evP T os (pushL d (.tuple []) L) M outs := rfl
theorem guardP_pos {p : Prop} [Decidable p] (h : p) : guardP T (some (.bool (decide p))) true op d os L M outs = stepP T (evA T L M op) M d os L outs := by simp [h]
theorem guardP_neg {p : Prop} [Decidable p] (h : ¬ p) : guardP T (some (.bool (decide p))) true op d os L M outs = evP T os (pushL d (.tuple []) L) M outs := by simp [h]
theorem guardP_posF {p : Prop} [Decidable p] (h : p) : guardP T (some (.bool (decide p))) false op d os L M outs = evP T os (pushL d (.tuple []) L) M outs := by simp [h]
theorem guardP_negF {p : Prop} [Decidable p] (h : ¬ p) : guardP T (some (.bool (decide p))) false op d os L M outs = stepP T (evA T L M op) M d os L outs := by simp [h]
@[simp low, go_sem low] theorem guardP_decide {p : Prop} [Decidable p] : guardP T (some (.bool (decide p))) true op d os L M outs = if p then stepP T (evA T L M op) M d os L outs else evP T os (pushL d (.tuple []) L) M outs := by
  by_cases h : p <;> simp [h]
@[simp low, go_sem low] theorem guardP_decideF {p : Prop} [Decidable p] : guardP T (some (.bool (decide p))) false op d os L M outs = if p then evP T os (pushL d (.tuple []) L) M outs else stepP T (evA T L M op) M d os L outs := by
  by_cases h : p <;> simp [h]
end
@[simp, go_sem] theorem evP_guard {d : Option Nat} {op : IOp} {t : Nat} {w : Bool} {q : Nat × Nat} {os : List (IOper × Nat × Nat)} {L : Env} {M : Mem} {outs : List Nat} : evP T ((⟨d, op, some (t, w)⟩, q) :: os) L M outs = guardP T (L.get t) w op d os L M outs := by
  unfold guardP stepP
  rw [evP]
  unfold guardOk
  simp only
  cases L.get t with
  | none => rfl
  | some c =>
    cases c with
    | bool b =>
      simp only
      by_cases hbw : b = w
      · simp only [hbw, beq_self_eq_true, if_true]
      · have : (b == w) = false := by simp [hbw]
        simp only [this, hbw, if_false]
    | tuple xs => cases xs <;> rfl
    | _ => rfl

end Go.Am
