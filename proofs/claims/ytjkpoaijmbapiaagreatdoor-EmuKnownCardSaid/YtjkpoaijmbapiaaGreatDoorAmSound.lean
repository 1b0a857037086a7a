/- An abstract machine for the part of Go that this program uses: an operation, a region, inside the model's calculus. -/
import Derived.Test.YtjkpoaijmbapiaaGreatDoorAmExec
import Derived.Test.YtjkpoaijmbapiaaGreatDoorAmMem
import Derived.OrdersIn
import Derived.RangeFuncSeq
namespace Go.Am
set_option linter.all false
open Go Go.RowKit

/-- A fence that fences nothing, at a function's own level or in a round. -/
def wide (r : Option Nat) : Fence := { fn := fun _ => True, depth := none, alive := false, round := r }

theorem callsIn_any {r : Option Nat} {n : Nat} {P : Program} {f : FuncId} {args : Array Value} {w : World} {R : Ending → World → Prop} : CallsIn (wide r) n P f args w R ↔ Calls P f args w R := by
  rw [← callsIn_wide (n := n)]
  constructor
  · intro h; exact ⟨trivial, fun cs _ => h.2 cs (fun _ h => by cases h)⟩
  · intro h; exact ⟨trivial, fun cs _ => h.2 cs (fun _ h => by cases h)⟩

/-- A function's contract: the abstract call tells what the call does; and so of a round of a loop over an iterator. -/
def CallSound (P : Program) (w0 : Base) (call : Nat → List AV → Mem → Option (AV × Mem)) : Prop :=
  ∀ w1 : Base, w1.env = w0.env → ∀ f args M r M', call f args M = some (r, M') →
    (f < yb → (∀ vs w, (callFunc f vs).run P w = .ok (.enter f vs) w) ∧
      ∀ (s : Sim) (w : World) (vs : List Value), MR w1 s M w → args.length = vs.length → (∀ (i : Nat) (x : AV) (v : Value), args[i]? = some x → vs[i]? = some v → VR s x v) →
        Calls P f vs.toArray w fun e w' => ∃ v s', e = .returned v ∧ s.le s' ∧ VR s' r v ∧ MR w1 s' M' w') ∧
    (∀ id, f = yb + id → ∀ (s : Sim) (w : World) (vs : List Value) (l : Nat) (rd : Option Nat) (m : Nat), MR w1 s M w → args.length = vs.length → (∀ (i : Nat) (x : AV) (v : Value), args[i]? = some x → vs[i]? = some v → VR s x v) →
      s.loc id = some (.loop l) → YieldAt (wide rd) m P l vs.toArray w fun e w' => ∃ v s', e = .returned v ∧ s.le s' ∧ VR s' r v ∧ MR w1 s' M' w')

theorem CallSound.of {P : Program} {w0 w1 : Base} {call : Nat → List AV → Mem → Option (AV × Mem)} (h : CallSound P w0 call) (e : w1.env = w0.env) : CallSound P w1 call := fun w2 e2 => h w2 (e2.trans e)

section
variable {P : Program} {w0 : Base} {w : World} {s : Sim} {M : Mem}

theorem okOp_defer {c : Call} {i : IOp} : okOp P (.defer c) i = false := by
  cases i
  case fn o xs => simp only [okOp]; unfold okF; split <;> simp [asBuiltin]
  all_goals simp [okOp, asBuiltin]

theorem list_append_get {xs ys : List AV} {us vs : List Value} (hl : xs.length = us.length) (h1 : ∀ (i : Nat) (x : AV) (v : Value), xs[i]? = some x → us[i]? = some v → VR s x v) (h2 : ∀ (i : Nat) (x : AV) (v : Value), ys[i]? = some x → vs[i]? = some v → VR s x v) :
    ∀ (i : Nat) (x : AV) (v : Value), (xs ++ ys)[i]? = some x → (us ++ vs)[i]? = some v → VR s x v := by
  intro i x v hx hv
  rw [List.getElem?_append] at hx hv
  rw [← hl] at hv
  split at hx
  · rename_i hlt
    rw [if_pos hlt] at hv
    exact h1 i x v hx hv
  · rename_i hge
    rw [if_neg hge] at hv
    exact h2 _ x v hx hv

/-- A call in an empty memory is one in any. -/
theorem frame_call {f : Nat} {args : List AV} {r : AV} (hu : AV.underAll 0 args = true)
    (h : ∀ (s : Sim) (W : World) (vs : List Value) (hW : Below w0.toWorld.heap.size w0.toWorld W), MR (w0.later W s.fz hW) s ⟨[], none⟩ W → args.length = vs.length → (∀ (i : Nat) (x : AV) (v : Value), args[i]? = some x → vs[i]? = some v → VR s x v) →
      Calls P f vs.toArray W fun e W' => ∃ v s' b, e = .returned v ∧ s.le s' ∧ VR s' r v ∧ MR (w0.later W s.fz hW) s' ⟨[], b⟩ W')
    {s : Sim} {M : Mem} {w : World} {vs : List Value} (hm : MR w0 s M w) (hl : args.length = vs.length) (hv : ∀ (i : Nat) (x : AV) (v : Value), args[i]? = some x → vs[i]? = some v → VR s x v) :
    Calls P f vs.toArray w fun e w' => ∃ v s', e = .returned v ∧ s.le s' ∧ VR s' r v ∧ MR w0 s' M w' := by
  obtain ⟨s1, hs1⟩ : ∃ s1 : Sim, s1 = { fz := s.fz, loc := fun _ => none, defs := fun _ => False } := ⟨_, rfl⟩
  have hfz : s1.fz = s.fz := by rw [hs1]
  have hm1 : MR (w0.later w s1.fz hm.below) s1 ⟨[], none⟩ w := by
    subst hs1
    exact ⟨Below.refl _ w, hm.fz, fun _ _ => rfl, (fun id o ho => by simp at ho), (fun i j l l' b hi => by cases hi), (fun i l b hi => by cases hi), fun d hd => hd.elim, (fun b o v _ h => h), fun b o h => by cases h⟩
  refine (h s1 w vs hm.below hm1 hl fun i x v hx hv' => ?_).mono ?_
  · have h1 := (hv i x v hx hv').cut (underAll_get hu hx)
    refine h1.mono0 ⟨fun b o u h => by rw [hfz]; exact h, fun id l h => ?_⟩
    simp only [Sim.cut, Nat.not_lt_zero, if_false] at h
    cases h
  · rintro e w' ⟨v, s1', b, rfl, h1, h2, h3⟩
    have hnone : ∀ id, s1'.loc id = none := fun id => h3.dom id (Nat.zero_le _)
    have hold : ∀ b o u, b < w.heap.size → s1'.fz b o = some u → s.fz b o = some u := fun b o u hb hu => by
      have := h3.old b o u hb hu
      rw [← hfz]; exact this
    have hle : s.le { fz := s1'.fz, loc := s.loc, defs := s.defs } := ⟨fun b o u hu => h1.fz b o u (by rw [hfz]; exact hu), fun id l h => ⟨l, h, l.le_refl⟩, fun _ h => h⟩
    refine ⟨v, { fz := s1'.fz, loc := s.loc, defs := s.defs }, rfl, hle, VR.mono0 (s := s1') (s' := { fz := s1'.fz, loc := s.loc, defs := s.defs }) ⟨fun _ _ _ h => h, fun id l h => by rw [hnone] at h; cases h⟩ h2, ?_⟩
    have hbel : Below w.heap.size w w' := h3.below
    have hsize := hm.below.size
    refine ⟨hm.below.trans (hbel.mono hsize), h3.fz, hm.dom, fun id o ho => (hm.obj id o ho).keep hle rfl fun l b hl hb => ?_, hm.inj, hm.own, fun d hd => ⟨(hm.defs d hd).1, (hbel.block d (hm.def_lt hd)).trans (hm.defs d hd).2⟩, fun b o u hb hu => hm.old b o u hb (hold b o u (by omega) hu), fun b x hx => ⟨(hm.held b x hx).1, (hbel.block b (hm.held_lt hx)).trans (hm.held b x hx).2.1, (hm.held b x hx).2.2.1, fun y => ?_, (hm.held b x hx).2.2.2.2⟩⟩
    have hblt := hm.block_lt hl hb
    refine ⟨hbel.block b hblt, fun o => ?_⟩
    show s1'.fz b o = s.fz b o
    cases h5 : s1'.fz b o with
    | none =>
      cases h6 : s.fz b o with
      | none => rfl
      | some u => have : s1'.fz b o = some u := hle.fz b o u h6; rw [h5] at this; cases this
    | some u => rw [hold b o u hblt h5]
    show s1'.fz b y = none
    cases h5 : s1'.fz b y with
    | none => rfl
    | some u => rw [← (hm.held b x hx).2.2.2.1 y, hold b y u (hm.held_lt hx) h5]

theorem op_sound {call : Nat → List AV → Mem → Option (AV × Mem)} (hcs : CallSound P w0 call) {r : Option Nat} {n : Nat} (hm : MR w0 s M w) {L : Env} {a : Act} (hL : LR s L a.tmps) {o : Oper} {i : IOp} {v : AV} {M' : Mem}
    (hok : okOp P o.op i = true) (h : evOp call L M i = some (v, M')) {K : Act → World → Prop} {Q : Exit → Act → World → Prop}
    (hK : ∀ s' w' u, s.le s' → MR w0 s' M' w' → VR s' v u → K (a.put o.dst u) w') : o.wpIn (wide r) n P a w K Q := by
  refine ⟨fun _ _ => trivial, ?_⟩
  rw [Oper.semAt_eq _ _ _ (fun c hc => by rw [hc, okOp_defer] at hok; cases hok)]
  by_cases hi : i.isCall = true
  · cases i <;> simp only [IOp.isCall] at hi <;> first | (cases hi; done) | skip
    · rename_i g args keep
      simp only [okOp] at hok
      split at hok
      · rename_i f xs ts ho
        simp only [Bool.and_eq_true] at hok
        simp only [evOp] at h
        split at h
        · rename_i fn first caps vs e1 e2
          have hf := okArg_ok hL hok.1 e1
          obtain ⟨p1, p2⟩ := okArgs_ok hL hok.2 e2
          have hcs1 := (hcs w0 rfl _ _ _ _ _ h).1
          generalize hfv : a.eval f = fv at hf
          cases hf with
          | func _ _ _ fs cs l1 l2 c1 c2 hg =>
            obtain ⟨hent, hcall⟩ := hcs1 hg
            have hrun : (execOp a.eval o).run P w = .ok (.enter fn ((fs ++ xs.toList.map a.eval) ++ cs).toArray) w := by
              have e3 : xs.map a.eval = (xs.toList.map a.eval).toArray := Array.ext' (by simp)
              have := hent ((fs.toArray ++ xs.map a.eval) ++ cs.toArray) w
              rw [e3] at this
              simp only [execOp, ho, resolve, hfv, Deferred.ofValue, e3, Sem.run_bind, Sem.run_pure, Result.andThen_ok, invoke]
              rw [this]
              simp
            rw [hrun, Oper.uponIn_enter]
            refine ⟨(fun h => by cases h), callsIn_any.2 ?_⟩
            have hvs : (if keep then vs else vs.map AV.untag).length = (xs.toList.map a.eval).length := by
              cases keep <;> simp [p1]
            have hvr : ∀ (i : Nat) (x : AV) (v : Value), (if keep then vs else vs.map AV.untag)[i]? = some x → (xs.toList.map a.eval)[i]? = some v → VR s x v := by
              cases keep with
              | true => exact p2
              | false =>
                intro i x v hx hv
                simp only [Bool.false_eq_true, if_false, List.getElem?_map, Option.map_eq_some_iff] at hx
                obtain ⟨y, hy, rfl⟩ := hx
                exact (p2 i y v hy hv).untag
            refine (hcall s w _ hm (by simp [l1, l2, p1]; cases keep <;> simp [p1]) (list_append_get (by simp [l1]; cases keep <;> simp [p1]) (list_append_get l1 c1 hvr) c2)).mono ?_
            rintro e w' ⟨u, s', rfl, h1, h2, h3⟩
            exact hK s' w' u h1 h3 h2
        · rename_i id vs e1 e2
          have hf := okArg_ok hL hok.1 e1
          obtain ⟨p1, p2⟩ := okArgs_ok hL hok.2 e2
          generalize hfv : a.eval f = fv at hf
          cases hf with
          | yield _ l hl =>
            have hvs : (if keep then vs else vs.map AV.untag).length = (xs.toList.map a.eval).length := by
              cases keep <;> simp [p1]
            have hvr : ∀ (i : Nat) (x : AV) (v : Value), (if keep then vs else vs.map AV.untag)[i]? = some x → (xs.toList.map a.eval)[i]? = some v → VR s x v := by
              cases keep with
              | true => exact p2
              | false =>
                intro i x v hx hv
                simp only [Bool.false_eq_true, if_false, List.getElem?_map, Option.map_eq_some_iff] at hx
                obtain ⟨y, hy, rfl⟩ := hx
                exact (p2 i y v hy hv).untag
            obtain ⟨fn, tmps, as, body, q1, q2⟩ := (hcs w0 rfl _ _ _ _ _ h).2 id rfl s w _ l r (n - 1) hm hvs hvr hl
            have e3 : xs.map a.eval = (xs.toList.map a.eval).toArray := Array.ext' (by simp)
            have hrun : (execOp a.eval o).run P w = .ok (.round l fn tmps as body) w := by
              simp only [execOp, ho, resolve, hfv, Deferred.ofValue, e3, Sem.run_bind, Sem.run_pure, Result.andThen_ok, invoke]
              simpa using q1
            rw [hrun, Oper.uponIn_round]
            refine ⟨(fun h => by cases h), q2.mono ?_⟩
            rintro e w' ⟨u, s', rfl, h1, h2, h3⟩
            exact hK s' w' u h1 h3 h2
        · cases h
      · cases hok
    · rename_i g args
      simp only [okOp] at hok
      split at hok
      · rename_i f xs ts ho
        simp only [Bool.and_eq_true] at hok
        simp only [evOp] at h
        split at h
        · rename_i fn first caps vs e1 e2
          split at h
          · rename_i hund
            split at h
            · rename_i rr bb hcall0
              simp only [Option.some.injEq, Prod.mk.injEq] at h
              obtain ⟨hr1, hr2⟩ := h
              subst hr2
              rw [hr1] at hcall0
              have hf := okArg_ok hL hok.1 e1
              obtain ⟨p1, p2⟩ := okArgs_ok hL hok.2 e2
              generalize hfv : a.eval f = fv at hf
              cases hf with
              | func _ _ _ fs cs l1 l2 c1 c2 hg =>
                obtain ⟨hent, _⟩ := (hcs w0 rfl _ _ _ _ _ hcall0).1 hg
                have hrun : (execOp a.eval o).run P w = .ok (.enter fn ((fs ++ xs.toList.map a.eval) ++ cs).toArray) w := by
                  have e3 : xs.map a.eval = (xs.toList.map a.eval).toArray := Array.ext' (by simp)
                  have := hent ((fs.toArray ++ xs.map a.eval) ++ cs.toArray) w
                  rw [e3] at this
                  simp only [execOp, ho, resolve, hfv, Deferred.ofValue, e3, Sem.run_bind, Sem.run_pure, Result.andThen_ok, invoke]
                  rw [this]
                  simp
                rw [hrun, Oper.uponIn_enter]
                refine ⟨(fun h => by cases h), callsIn_any.2 ?_⟩
                have hvr : ∀ (i : Nat) (x : AV) (v : Value), (vs.map AV.untag)[i]? = some x → (xs.toList.map a.eval)[i]? = some v → VR s x v := by
                  intro i x v hx hv
                  simp only [List.getElem?_map, Option.map_eq_some_iff] at hx
                  obtain ⟨y, hy, rfl⟩ := hx
                  exact (p2 i y v hy (by simpa using hv)).untag
                refine (frame_call (r := v) hund (fun s1 W us hW h1 h2 h3 => ?_) hm (by simp [l1, l2, p1]) (list_append_get (by simp [l1, p1]) (list_append_get l1 c1 hvr) c2)).mono ?_
                · refine (((hcs (w0.later W s1.fz hW) rfl _ _ _ _ _ hcall0).1 hg).2 s1 W us h1 h2 h3).mono ?_
                  rintro e w' ⟨v, s', k1, k2, k3, k4⟩
                  exact ⟨v, s', bb, k1, k2, k3, k4⟩
                · rintro e w' ⟨u, s', rfl, h1, h2, h3⟩
                  exact hK s' w' u h1 h3 h2
            · cases h
          · cases h
        · cases h
      · cases hok
  · have hi' : i.isCall = false := by simpa using hi
    obtain ⟨s', w', h1, h2, h3⟩ := exec_run (P := P) hm hL hok hi' h
    rcases h3 with ⟨u, h3, h4⟩ | ⟨h3, rfl⟩
    · rw [h3, Oper.uponIn_value]; exact hK s' w' u h1 h2 h4
    · rw [h3, Oper.uponIn_skip]; exact hK s' w' undef h1 h2 (.tuple [] [] rfl (by simp))

def okGuard (ops : Array Oper) : Option (Nat × Bool) → Option (Nat × Bool) → Bool
  | none, none => true
  | some (j, b), some (t, b') => decide ((ops[j]?).bind (·.dst) = some t) && b == b'
  | _, _ => false

def okOper (P : Program) (nt : Nat) (ops : Array Oper) (o : Oper) (i : IOper) : Bool :=
  okOp P o.op i.op && decide (o.dst = i.dst) && (match o.dst with | none => true | some d => decide (d < nt)) && okGuard ops o.guard i.guard

theorem guard_run {ops : Array Oper} {L : Env} {a : Act} (hL : LR s L a.tmps) {o : Oper} {g : Option (Nat × Bool)} {b : Bool} (hg : okGuard ops o.guard g = true) (h : guardOk L g = some b) : Region.wanted o (yielded ops a.tmps) = b := by
  unfold Region.wanted
  cases ho : o.guard with
  | none =>
    rw [ho] at hg
    cases g with
    | none => simp only [guardOk, Option.some.injEq] at h; exact h
    | some g => simp [okGuard] at hg
  | some jw =>
    obtain ⟨j, want⟩ := jw
    rw [ho] at hg
    cases g with
    | none => simp [okGuard] at hg
    | some g =>
      obtain ⟨t, want'⟩ := g
      simp only [okGuard, Bool.and_eq_true, decide_eq_true_eq, beq_iff_eq] at hg
      obtain ⟨h1, rfl⟩ := hg
      simp only [guardOk] at h
      split at h
      · rename_i c e
        simp only [Option.some.injEq] at h; subst h
        obtain ⟨h2, h3⟩ := hL _ _ e
        have h4 := h3.bool_inv
        have h5 : a.tmps[t]? = some (.bool c) := by
          rw [Array.getElem?_eq_getElem h2]
          simp only [Array.getD, h2, dif_pos] at h4
          rw [← h4]; rfl
        simp only [yielded, h1, Option.bind_some, h5]
        cases c <;> cases want <;> rfl
      · rename_i e
        simp only [Option.some.injEq] at h; subst h
        obtain ⟨h2, h3⟩ := hL _ _ e
        have h4 : a.tmps.getD t undef = .tuple #[] := by
          generalize a.tmps.getD t undef = z at h3
          cases h3 with
          | tuple _ vs hl _ =>
            have : vs = [] := List.eq_nil_of_length_eq_zero (by simpa using hl.symm)
            rw [this]
        have h5 : a.tmps[t]? = some (.tuple #[]) := by
          rw [Array.getElem?_eq_getElem h2]
          simp only [Array.getD, h2, dif_pos] at h4
          rw [← h4]; rfl
        simp only [yielded, h1, Option.bind_some, h5]
        cases want <;> rfl
      · cases h

theorem put_size (a : Act) (d : Option Tmp) (v : Value) : (a.put d v).tmps.size = a.tmps.size := by
  cases d <;> simp [Act.put]

theorem put_defers (a : Act) (d : Option Tmp) (v : Value) : (a.put d v).defers = a.defers := by
  cases d <;> rfl

theorem LR.push {L : Env} {a : Act} (hL : LR s L a.tmps) {d : Option Nat} {x : AV} {u : Value} (hd : ∀ t, d = some t → t < a.tmps.size) (hx : VR s x u) : LR s (pushL d x L) (a.put d u).tmps := by
  cases d with
  | none => exact hL
  | some d =>
    have hlt := hd d rfl
    intro t v ht
    simp only [pushL, Env.get] at ht
    simp only [Act.put, Array.size_setIfInBounds]
    split at ht
    · rename_i e
      subst e
      simp only [Option.some.injEq] at ht
      subst ht
      refine ⟨hlt, ?_⟩
      simp only [Array.getD, Array.size_setIfInBounds, hlt, dif_pos]
      simpa using hx
    · rename_i e
      obtain ⟨h1, h2⟩ := hL t v ht
      refine ⟨h1, ?_⟩
      rw [Array.getD_eq_getD_getElem?, Array.getElem?_setIfInBounds_ne (by omega), ← Array.getD_eq_getD_getElem?]
      exact h2

def okOpers (P : Program) (nt : Nat) (all : Array Oper) : List Oper → List IOper → Bool
  | [], [] => true
  | o :: os, i :: is => okOper P nt all o i && okOpers P nt all os is
  | _, _ => false

theorem okOper_parts {nt : Nat} {ops : Array Oper} {o : Oper} {i : IOper} (h : okOper P nt ops o i = true) : okOp P o.op i.op = true ∧ o.dst = i.dst ∧ (∀ t, i.dst = some t → t < nt) ∧ okGuard ops o.guard i.guard = true := by
  simp only [okOper, Bool.and_eq_true, decide_eq_true_eq] at h
  obtain ⟨⟨⟨h1, h2⟩, h3⟩, h4⟩ := h
  refine ⟨h1, h2, fun t ht => ?_, h4⟩
  rw [h2, ht] at h3
  simpa using h3

theorem ops_sound {call : Nat → List AV → Mem → Option (AV × Mem)} (hcs : CallSound P w0 call) {r : Option Nat} {n nt : Nat} {ops : Array Oper} {Q : Exit → Act → World → Prop} : ∀ (os : List Oper) (is : List IOper) (k : Nat) (s : Sim) (M : Mem) (w : World) (L : Env) (a : Act) (L' : Env) (M' : Mem),
    (∀ j, j < os.length → ops[k + j]? = os[j]?) → okOpers P nt ops os is = true → nt ≤ a.tmps.size → evOps call is L M = some (L', M') → LR s L a.tmps → MR w0 s M w →
    (∀ s' a' w', s.le s' → LR s' L' a'.tmps → a'.tmps.size = a.tmps.size → a'.defers = a.defers → MR w0 s' M' w' → Q .normal a' w') → wpOpsIn (wide r) n P ops Q (List.range' k os.length 1) a w := by
  intro os
  induction os with
  | nil =>
    intro is k s M w L a L' M' _ hok _ h hL hm hQ
    cases is with
    | nil =>
      simp only [evOps, Option.some.injEq, Prod.mk.injEq] at h
      obtain ⟨rfl, rfl⟩ := h
      exact hQ s a w (.refl s) hL rfl rfl hm
    | cons i is => simp [okOpers] at hok
  | cons o os ih =>
    intro is k s M w L a L' M' hops hok hnt h hL hm hQ
    cases is with
    | nil => simp [okOpers] at hok
    | cons i is =>
      simp only [okOpers, Bool.and_eq_true] at hok
      obtain ⟨h1, h2, h3, h4⟩ := okOper_parts hok.1
      have hk : ops[k]? = some o := by have := hops 0 (by simp); simpa using this
      have hops' : ∀ j, j < os.length → ops[k + 1 + j]? = os[j]? := fun j hj => by
        have := hops (j + 1) (by simpa using hj)
        rw [List.getElem?_cons_succ] at this
        rw [← this]; congr 1; omega
      simp only [List.length_cons, List.range'_succ]
      simp only [evOps] at h
      unfold wpOpsIn
      simp only [hk]
      split at h
      · cases h
      · rename_i hg
        have hw := guard_run hL h4 hg
        rw [if_neg (by simp [hw])]
        refine ⟨fun _ _ => trivial, ?_⟩
        rw [h2]
        refine ih is (k + 1) s M w _ (a.put i.dst undef) L' M' hops' hok.2 (by rw [put_size]; exact hnt) h (hL.push (fun t ht => by have := h3 t ht; omega) (.tuple [] [] rfl (by simp))) hm fun s' a' w' q1 q2 q3 q4 q5 => ?_
        exact hQ s' a' w' q1 q2 (by rw [q3, put_size]) (by rw [q4, put_defers]) q5
      · rename_i hg
        split at h
        · cases h
        · rename_i v M1 he
          have hw := guard_run hL h4 hg
          rw [if_pos hw]
          refine op_sound hcs hm hL h1 he fun s1 w1 u g1 g2 g3 => ?_
          rw [h2]
          refine ih is (k + 1) s1 M1 w1 _ (a.put i.dst u) L' M' hops' hok.2 (by rw [put_size]; exact hnt) h ((hL.mono g1).push (fun t ht => by have := h3 t ht; omega) g3) g2 fun s' a' w' q1 q2 q3 q4 q5 => ?_
          exact hQ s' a' w' (g1.trans q1) q2 (by rw [q3, put_size]) (by rw [q4, put_defers]) q5

end
end Go.Am
