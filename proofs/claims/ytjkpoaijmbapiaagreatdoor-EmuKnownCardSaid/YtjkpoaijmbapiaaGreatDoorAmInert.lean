/- An abstract machine for the part of Go that this program uses: a deferred function that does nothing where nobody panics. -/
import Derived.RecoverIn
import Derived.Test.YtjkpoaijmbapiaaGreatDoorAmSound
namespace Go.Am
set_option linter.all false
open Go Go.RowKit

/-- 'x := recover()'. -/
def recB (ops : Array Oper) (nt b : Nat) : Bool :=
  match ops.toList with
  | [o, p] => match o.op, o.dst, o.guard, p.op, p.dst, p.guard with
    | .call { callee := .builtin .recover, args, .. }, some a, none, .assign (.tmp a'), some b', none => args.toList.isEmpty && a == a' && b' == b && decide (a < nt) && decide (b < nt)
    | _, _, _, _, _, _ => false
  | _ => false

/-- 'x != nil'. -/
def isB (P : Program) (ops : Array Oper) (nt b d : Nat) : Bool :=
  match ops.toList with
  | [o, p] => match o.op, o.dst, o.guard, p.op, p.dst, p.guard with
    | .move (.tmp b'), some c, none, .binOp .neq t (.tmp c') (.const .nilIface) _, some d', none => b' == b && c == c' && d' == d && decide (c < nt) && decide (d < nt) && (match P.underlying t with | some (.interface _) => true | _ => false)
    | _, _, _, _, _, _ => false
  | _ => false

def recTo (ops : Array Oper) : Nat := ((ops[1]?).bind (·.dst)).getD 0

def inertC (P : Program) (nt : Nat) : Code → Bool
  | .seq (.region _ r0 false) (.seq (.region _ r1 false) (.cond (.tmp d) _ .skip)) => recB r0 nt (recTo r0) && isB P r1 nt (recTo r0) d
  | .seq (.seq (.region _ r0 false) (.region _ r1 false)) (.cond (.tmp d) _ .skip) => recB r0 nt (recTo r0) && isB P r1 nt (recTo r0) d
  | _ => false

def inertB (P : Program) (g : Nat) : Bool :=
  match P.funcs[g]? with
  | some fn => !(fn.name == "runtime.NumGoroutine") && fn.results.toList.isEmpty && (match fn.body with | some c => inertC P fn.ntmps c | none => false)
  | none => false

/-- A deferred call that comes to nothing. -/
def Inert (P : Program) (d : Deferred) : Prop := ∃ fv cap f args, d.target = .fn fv cap ∧ ∀ w, (invoke d.target d.args).run P w = .ok (.enter f args) w ∧
  CallsDIn (wide none) 0 P f args .returning w fun e u' w' => (∃ v, e = .returned v) ∧ u' = .returning ∧ w' = w

/-- 'defer func() { .. recover() .. }()'. -/
def okDfr (P : Program) (nt : Nat) (ops : Array Oper) (g : Nat) (caps : List Arg) (outs : List Nat) : Bool :=
  match ops.toList with
  | [o, p] => match o.op, o.dst, o.guard, p.op, p.dst, p.guard with
    | .makeFunc (.func g') first cs, some t, none, .defer { callee := .value (.tmp t'), args, .. }, none, none =>
      g' == g && first.toList.isEmpty && t == t' && args.toList.isEmpty && decide (t < nt) && okArgs cs.toList caps && !outs.contains t && inertB P g
    | _, _, _, _, _, _ => false
  | _ => false

section
variable {P : Program} {w : World}

theorem getD_put_ne {a : Act} {d t : Nat} {v : Value} (h : t ≠ d) : (a.put (some d) v).tmps.getD t undef = a.tmps.getD t undef := by
  simp only [Act.put, Array.getD_eq_getD_getElem?, Array.getElem?_setIfInBounds_ne (Ne.symm h)]

theorem getD_put_self {a : Act} {d : Nat} {v : Value} (h : d < a.tmps.size) : (a.put (some d) v).tmps.getD d undef = v := by
  simp [Act.put, Array.getD_eq_getD_getElem?, h]

theorem rec_wp {nt b : Nat} {ops : Array Oper} (h : recB ops nt b = true) {a : Act} {c₀ : Frame} {cs : List Frame} {Q : Exit → Act → List Frame → World → Prop} (hm : c₀.mode = .returning) (hs : nt ≤ a.tmps.size)
    (hQ : ∀ a', a'.defers = a.defers → a'.tmps.size = a.tmps.size → a'.tmps.getD b undef = .nilIface → Q .normal a' (c₀ :: cs) w) : wpOpsSIn (wide none) 0 P ops Q (List.range ops.size) a (c₀ :: cs) w := by
  unfold recB at h
  split at h
  · rename_i o p hops
    have hsz : ops.size = 2 := by rw [← Array.length_toList, hops]; rfl
    have h0 : ops[0]? = some o := by rw [← Array.getElem?_toList, hops]; rfl
    have h1 : ops[1]? = some p := by rw [← Array.getElem?_toList, hops]; rfl
    split at h
    · rename_i args aT aY a0 a' b' e1 e2 e3 e4 e5 e6
      simp only [Bool.and_eq_true, beq_iff_eq, decide_eq_true_eq, List.isEmpty_iff] at h
      obtain ⟨⟨⟨⟨hargs, rfl⟩, rfl⟩, ha⟩, hb⟩ := h
      rw [hsz]
      have hw0 : Region.wanted o (yielded ops a.tmps) = true := by unfold Region.wanted; rw [e3]
      have hx0 : (execOp a.eval o).run P w = .ok .recover w := by
        simp [execOp, e1, resolve, invoke, builtin]
      have hr : recoverD (c₀ :: cs) = none := by simp [recoverD, hm]
      show wpOpsSIn (wide none) 0 P ops Q [0, 1] a (c₀ :: cs) w
      simp only [wpOpsSIn, h0, h1]
      refine ⟨fun _ _ => trivial, ?_⟩
      rw [if_pos hw0, hx0]
      simp only [hr]
      have hw1 : ∀ t, Region.wanted p (yielded ops t) = true := fun t => by unfold Region.wanted; rw [e6]
      refine ⟨fun _ _ => trivial, ?_⟩
      rw [if_pos (hw1 _)]
      have hx1 : (execOp (a.put o.dst .nilIface).eval p).run P w = .ok (.value .nilIface) w := by
        rw [e2]
        have : (a.put (some a0) .nilIface).eval (.tmp a0) = .nilIface := getD_put_self (Nat.lt_of_lt_of_le ha hs)
        simp only [execOp, e4, this]
        rfl
      rw [hx1]
      refine hQ _ ?_ ?_ ?_
      · rw [put_defers, put_defers]
      · rw [put_size, put_size]
      · rw [e5, getD_put_self]
        rw [put_size]; exact Nat.lt_of_lt_of_le hb hs
    · cases h
  · cases h

theorem is_wp {nt b d : Nat} {ops : Array Oper} (h : isB P ops nt b d = true) {a : Act} {cs : List Frame} {Q : Exit → Act → List Frame → World → Prop} (hs : nt ≤ a.tmps.size) (hb : a.tmps.getD b undef = .nilIface)
    (hQ : ∀ a', a'.defers = a.defers → a'.tmps.size = a.tmps.size → a'.eval (.tmp d) = .bool false → Q .normal a' cs w) : wpOpsSIn (wide none) 0 P ops Q (List.range ops.size) a cs w := by
  unfold isB at h
  split at h
  · rename_i o p hops
    have hsz : ops.size = 2 := by rw [← Array.length_toList, hops]; rfl
    have h0 : ops[0]? = some o := by rw [← Array.getElem?_toList, hops]; rfl
    have h1 : ops[1]? = some p := by rw [← Array.getElem?_toList, hops]; rfl
    split at h
    · rename_i b' c t c' yt d' e1 e2 e3 e4 e5 e6
      simp only [Bool.and_eq_true, beq_iff_eq, decide_eq_true_eq] at h
      obtain ⟨⟨⟨⟨⟨rfl, rfl⟩, rfl⟩, hc⟩, hd⟩, ht⟩ := h
      rw [hsz]
      show wpOpsSIn (wide none) 0 P ops Q [0, 1] a cs w
      simp only [wpOpsSIn, h0, h1]
      have hw0 : Region.wanted o (yielded ops a.tmps) = true := by unfold Region.wanted; rw [e3]
      have hx0 : (execOp a.eval o).run P w = .ok (.value .nilIface) w := by
        have : a.eval (.tmp b') = .nilIface := hb
        simp only [execOp, e1, this]
        rfl
      refine ⟨fun _ _ => trivial, ?_⟩
      rw [if_pos hw0, hx0]
      have hw1 : ∀ t, Region.wanted p (yielded ops t) = true := fun t => by unfold Region.wanted; rw [e6]
      refine ⟨fun _ _ => trivial, ?_⟩
      rw [if_pos (hw1 _)]
      have hx1 : (execOp (a.put o.dst .nilIface).eval p).run P w = .ok (.value (.bool false)) w := by
        rw [e2]
        have h2 : (a.put (some c) .nilIface).eval (.tmp c) = .nilIface := getD_put_self (Nat.lt_of_lt_of_le hc hs)
        obtain ⟨v, hv1, hv2⟩ := nil_run (P := P) (w := w) (s := ⟨fun _ _ => none, fun _ => none, fun _ => False⟩) (op := .neq) (kd := 4) (neg := true) (t := t) (c := .nilIface) (o1 := .tmp c) (x := .niliface) (v := .bool false) rfl (by
          unfold okNil
          split at ht
          · rename_i hu; rw [hu]; rfl
          · cases ht) .niliface rfl
        cases hv1
        simp only [execOp, e4, h2]
        have h3 : (a.put (some c) .nilIface).eval (.const .nilIface) = .nilIface := rfl
        rw [h3]
        exact run_v hv2
      rw [hx1]
      refine hQ _ ?_ ?_ ?_
      · rw [put_defers, put_defers]
      · rw [put_size, put_size]
      · rw [e5]
        exact getD_put_self (by rw [put_size]; exact Nat.lt_of_lt_of_le hd hs)
    · cases h
  · cases h

theorem run_callFunc {f : Nat} {F : Func} {code : Code} (hF : P.funcs[f]? = some F) (hb : F.body = some code) (hn : F.name ≠ "runtime.NumGoroutine") (vs : Array Value) (w : World) : (callFunc f vs).run P w = .ok (.enter f vs) w := by
  simp only [callFunc, Sem.run_bind, run_program, Result.andThen_ok, hF]
  rw [if_neg (by simpa using hn), if_neg (by simp [hb])]
  rfl

/-- It comes to nothing. -/
theorem inert_calls {g : Nat} (h : inertB P g = true) (vs : Array Value) (w : World) :
    (callFunc g vs).run P w = .ok (.enter g vs) w ∧ CallsDIn (wide none) 0 P g vs .returning w fun e u' w' => (∃ v, e = .returned v) ∧ u' = .returning ∧ w' = w := by
  unfold inertB at h
  split at h
  · rename_i fn hf
    simp only [Bool.and_eq_true, Bool.not_eq_true'] at h
    obtain ⟨⟨hname, hres⟩, hb⟩ := h
    split at hb
    · rename_i c hc
      refine ⟨run_callFunc hf hc (by simpa using hname) vs w, callsDIn_of_wpSIn hf hc trivial fun c₀ cs hu => ?_⟩
      have hsz : fn.ntmps ≤ (vs ++ Array.replicate (fn.ntmps - vs.size) undef).size := by simp; omega
      have fin : ∀ a' : Act, a'.defers = [] → bodyPostS P fn c₀ cs (fun e u' w' => (∃ v, e = .returned v) ∧ u' = .returning ∧ w' = w) .normal a' (c₀ :: cs) w := by
        intro a' hd
        refine ⟨hd, .returning, ?_, .tuple #[], ?_, ⟨_, rfl⟩, rfl, rfl⟩
        · cases c₀; simp only at hu; subst hu; rfl
        · have : fn.results = #[] := by
            have := List.isEmpty_iff.1 hres
            cases hr : fn.results; rw [hr] at this; simp_all
          exact results_none this a'.tmps P w
      have cond : ∀ (a' : Act) (d : Nat) (x : Code), a'.defers = [] → a'.eval (.tmp d) = .bool false → (Code.cond (.tmp d) x .skip).wpSIn (wide none) 0 P (bodyPostS P fn c₀ cs fun e u' w' => (∃ v, e = .returned v) ∧ u' = .returning ∧ w' = w) a' (c₀ :: cs) w := by
        intro a' d x hd he
        refine wpSIn_cond he ?_
        refine wpSIn_of_wpIn rfl ?_
        rw [if_neg (by simp)]
        exact wpIn_skip (fin a' hd)
      unfold inertC at hb
      split at hb
      · simp only [Bool.and_eq_true] at hb
        refine wpSIn_seq (wpSIn_region (rec_wp hb.1 hu hsz fun a1 h1 h2 h3 => ?_))
        refine wpSIn_seq (wpSIn_region (is_wp hb.2 (by rw [h2]; exact hsz) h3 fun a2 k1 k2 k3 => ?_))
        exact cond a2 _ _ (k1.trans h1) k3
      · simp only [Bool.and_eq_true] at hb
        refine wpSIn_seq (wpSIn_seq (wpSIn_region (rec_wp hb.1 hu hsz fun a1 h1 h2 h3 => ?_)))
        refine wpSIn_region (is_wp hb.2 (by rw [h2]; exact hsz) h3 fun a2 k1 k2 k3 => ?_)
        exact cond a2 _ _ (k1.trans h1) k3
      · cases hb
    · cases hb
  · cases h

theorem keep_get {e : Env} {t : Nat} {v : AV} : ∀ {ts : List Nat}, (e.keep ts).get t = some v → t ∈ ts ∧ e.get t = some v := by
  intro ts
  induction ts with
  | nil => intro h; simp [Env.keep, Env.get] at h
  | cons u ts ih =>
    intro h
    simp only [Env.keep] at h
    split at h
    · rename_i x hx
      simp only [Env.get] at h
      split at h
      · rename_i e1; subst e1
        simp only [Option.some.injEq] at h; subst h
        exact ⟨List.mem_cons_self, hx⟩
      · exact ⟨List.mem_cons_of_mem _ (ih h).1, (ih h).2⟩
    · exact ⟨List.mem_cons_of_mem _ (ih h).1, (ih h).2⟩

theorem dfr_wp {nt g m : Nat} {ops : Array Oper} {caps : List Arg} {outs : List Nat} (h : okDfr P nt ops g caps outs = true) {s : Sim} {env : Env} {a : Act} {Q : Exit → Act → World → Prop} (hs : nt ≤ a.tmps.size) (hL : LR s env a.tmps)
    (hQ : ∀ d a', Inert P d → a'.defers = d :: a.defers → a'.tmps.size = a.tmps.size → LR s (env.keep outs) a'.tmps → Q .normal a' w) : wpOpsIn (wide none) m P ops Q (List.range ops.size) a w := by
  unfold okDfr at h
  split at h
  · rename_i o p hops
    have hsz : ops.size = 2 := by rw [← Array.length_toList, hops]; rfl
    have h0 : ops[0]? = some o := by rw [← Array.getElem?_toList, hops]; rfl
    have h1 : ops[1]? = some p := by rw [← Array.getElem?_toList, hops]; rfl
    split at h
    · rename_i g' first cs t t' args aT e1 e2 e3 e4 e5 e6
      simp only [Bool.and_eq_true, beq_iff_eq, decide_eq_true_eq, List.isEmpty_iff, Bool.not_eq_true'] at h
      obtain ⟨⟨⟨⟨⟨⟨⟨rfl, hfirst⟩, rfl⟩, hargs⟩, ht⟩, _⟩, hout⟩, hin⟩ := h
      have hfirst' : first = #[] := by cases first; simp_all
      have hargs' : args = #[] := by cases args; simp_all
      subst hfirst'
      subst hargs'
      rw [hsz]
      show wpOpsIn (wide none) m P ops Q [0, 1] a w
      rw [wpOpsIn_cons]
      unfold wpOpIn
      simp only [h0]
      have hw0 : Region.wanted o (yielded ops a.tmps) = true := by unfold Region.wanted; rw [e3]
      rw [if_pos hw0]
      refine ⟨fun _ _ => trivial, ?_⟩
      rw [Oper.semAt_eq _ _ _ (fun c hc => by rw [hc] at e1; cases e1)]
      have hx0 : (execOp a.eval o).run P w = .ok (.value (.func (.func g') #[] (cs.map a.eval))) w := by
        simp only [execOp, e1]
        exact run_v (by simp [Instr.makeFunc])
      rw [hx0, Oper.uponIn_value, e2, wpOpsIn_cons]
      unfold wpOpIn
      simp only [h1]
      have hw1 : ∀ t, Region.wanted p (yielded ops t) = true := fun t => by unfold Region.wanted; rw [e6]
      rw [if_pos (hw1 _)]
      refine ⟨fun _ _ => trivial, ?_⟩
      have hx1 : (Oper.semAt (wide none).round (a.put (some t) (.func (.func g') #[] (cs.map a.eval))).eval p).run P w = .ok (.defer { target := .fn (.func g') (cs.map a.eval), args := #[] }) w := by
        show (execOp _ p).run P w = _
        have h2 : (a.put (some t) (.func (.func g') #[] (cs.map a.eval))).eval (.tmp t) = .func (.func g') #[] (cs.map a.eval) := getD_put_self (Nat.lt_of_lt_of_le ht hs)
        simp only [execOp, e4, resolve, Deferred.ofValue, h2]
        simp
      rw [hx1, Oper.uponIn_defer, e5]
      refine hQ { target := .fn (.func g') (cs.map a.eval), args := #[] } _ ⟨.func g', cs.map a.eval, g', #[] ++ cs.map a.eval, rfl, fun w => ⟨?_, ?_⟩⟩ ?_ ?_ ?_
      · exact (inert_calls hin _ w).1
      · exact (inert_calls hin _ w).2
      · show _ :: (a.put (some t) _).defers = _
        rw [put_defers]
      · show (a.put (some t) _).tmps.size = _
        rw [put_size]
      · intro u v hu
        obtain ⟨k1, k2⟩ := keep_get hu
        have hne : u ≠ t := fun e => by
          subst e
          rw [List.contains_eq_mem] at hout
          simp [k1] at hout
        obtain ⟨k3, k4⟩ := hL u v k2
        refine ⟨?_, ?_⟩
        · show u < (a.put (some t) _).tmps.size
          rw [put_size]; exact k3
        · show VR s v ((a.put (some t) _).tmps.getD u undef)
          rw [getD_put_ne hne]; exact k4
    · cases h
  · cases h

end
end Go.Am
