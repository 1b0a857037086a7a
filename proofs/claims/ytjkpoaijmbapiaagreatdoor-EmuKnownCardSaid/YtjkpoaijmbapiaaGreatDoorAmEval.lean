/- An abstract machine for the part of Go that this program uses: its evaluator without the bound on rounds, by equations. -/
import Derived.Test.YtjkpoaijmbapiaaGreatDoorAmMem
namespace Go.Am
set_option linter.all false
open Go

open Classical in
/-- What a growing row of answers comes to. -/
noncomputable def lim {α : Type} (g : Nat → Option α) : Option α :=
  if h : ∃ n r, g n = some r then some h.choose_spec.choose else none

theorem lim_some {α : Type} {g : Nat → Option α} (hg : ∀ n m r, n ≤ m → g n = some r → g m = some r) {r : α} : lim g = some r ↔ ∃ n, g n = some r := by
  constructor
  · intro h
    unfold lim at h
    split at h
    · rename_i hex
      simp only [Option.some.injEq] at h
      exact ⟨hex.choose, by rw [← h]; exact hex.choose_spec.choose_spec⟩
    · cases h
  · rintro ⟨n, hn⟩
    have hex : ∃ n r, g n = some r := ⟨n, r, hn⟩
    unfold lim
    rw [dif_pos hex]
    have h1 := hex.choose_spec.choose_spec
    have h2 := hg _ (max hex.choose n) _ (Nat.le_max_left _ _) h1
    have h3 := hg _ (max hex.choose n) _ (Nat.le_max_right _ _) hn
    rw [h2] at h3
    exact h3

abbrev Fun := Nat → List AV → Mem → Option (AV × Mem)

def Fun.le (c c' : Fun) : Prop := ∀ f args M r, c f args M = some r → c' f args M = some r

theorem evOp_mono {c c' : Fun} (h : c.le c') {L : Env} {M : Mem} {o : IOp} {r : AV × Mem} (he : evOp c L M o = some r) : evOp c' L M o = some r := by
  cases o
  case call g args keep =>
    simp only [evOp] at he ⊢
    split at he
    · rename_i f first caps vs e1 e2
      exact h _ _ _ _ he
    · rename_i id vs e1 e2
      exact h _ _ _ _ he
    · cases he
  case callP g args =>
    simp only [evOp] at he ⊢
    split at he
    · split at he
      · rename_i hu
        simp only [hu, if_true]
        split at he
        · rename_i hc
          rw [h _ _ _ _ hc]
          exact he
        · cases he
      · cases he
    · cases he
  all_goals exact he

theorem evOps_mono {c c' : Fun} (h : c.le c') : ∀ {os : List IOper} {L : Env} {M : Mem} {r : Env × Mem}, evOps c os L M = some r → evOps c' os L M = some r := by
  intro os
  induction os with
  | nil => intro L M r hr; exact hr
  | cons o os ih =>
    intro L M r hr
    simp only [evOps] at hr ⊢
    split at hr
    · cases hr
    · rename_i e; exact ih hr
    · rename_i e
      split at hr
      · cases hr
      · rename_i v M1 h1
        rw [evOp_mono h h1]
        exact ih hr

theorem evOpsD_mono {c c' : Fun} (h : c.le c') : ∀ {os : List (IOper × Nat × Nat)} {L : Env} {M : Mem} {ms : List Mem} {r}, evOpsD c os L M ms = some r → evOpsD c' os L M ms = some r := by
  intro os
  induction os with
  | nil => intro L M ms r hr; exact hr
  | cons o os ih =>
    intro L M ms r hr
    obtain ⟨o, q⟩ := o
    simp only [evOpsD] at hr ⊢
    split at hr
    · cases hr
    · split at hr
      · cases hr
      · rename_i h1
        rw [ih h1]; exact hr
    · split at hr
      · cases hr
      · rename_i v M1 h1
        rw [evOp_mono h h1]
        simp only
        split at hr
        · cases hr
        · rename_i h2
          rw [ih h2]; exact hr

theorem stays_call (c c' : Fun) (op : IOp) (hl : op.looks = true) (L : Env) (v : AV) (ms : List Mem) : ∀ (n lo : Nat), stays c op L v ms lo n = stays c' op L v ms lo n := by
  intro n
  induction n with
  | zero => intro lo; rfl
  | succ n ih =>
    intro lo
    simp only [stays]
    rw [ih]
    cases op <;> simp only [IOp.looks] at hl <;> first | (cases hl; done) | rfl

theorem stayAll_call (c c' : Fun) (ms : List Mem) : ∀ (os : List (IOper × Nat × Nat)) (tr : List (Env × AV × Bool)), stayAll c ms os tr = stayAll c' ms os tr := by
  intro os
  induction os with
  | nil => intro tr; rfl
  | cons o os ih =>
    intro tr
    cases tr with
    | nil => rfl
    | cons t tr =>
      obtain ⟨o, lo, n⟩ := o
      obtain ⟨L, v, ran⟩ := t
      simp only [stayAll]
      rw [ih]
      congr 1
      cases hl : o.op.looks with
      | false => simp
      | true => rw [stays_call c c' o.op hl]

theorem iter_mono {f f' : Env → Mem → Res} (h : ∀ e M r, f e M = some r → f' e M = some r) {keep : List Nat} {pop : Option (Nat × Option Nat)} : ∀ (n m : Nat) {env : Env} {M : Mem} {r}, n ≤ m → iter f keep pop n env M = some r → iter f' keep pop m env M = some r := by
  intro n
  induction n with
  | zero => intro m env M r _ h; cases h
  | succ n ih =>
    intro m env M r hm hr
    obtain ⟨m, rfl⟩ : ∃ q, m = q + 1 := ⟨m - 1, by omega⟩
    simp only [iter] at hr ⊢
    cases h1 : f (env.keep keep) (popAt pop (env.keep keep) M) with
    | none => rw [h1] at hr; cases hr
    | some y =>
      rw [h1] at hr
      rw [h _ _ _ h1]
      obtain ⟨x, e, M1⟩ := y
      cases x with
      | nrm => exact ih m (by omega) hr
      | ext i => exact hr
      | ret => exact hr

theorem evC_mono {c c' : Fun} (h : c.le c') {n m : Nat} (hn : n ≤ m) : ∀ {code : C} {env : Env} {M : Mem} {r}, evC c n code env M = some r → evC c' m code env M = some r := by
  intro code
  induction code with
  | skip => intro env M r hr; exact hr
  | reg ops outs =>
    intro env M r hr
    simp only [evC] at hr ⊢
    split at hr
    · cases hr
    · rename_i L M1 h1
      rw [evOps_mono h h1]; exact hr
  | regD ops outs =>
    intro env M r hr
    simp only [evC] at hr ⊢
    split at hr
    · cases hr
    · rename_i L M1 ms tr h1
      rw [evOpsD_mono h h1]
      simp only
      rw [stayAll_call c' c]; exact hr
  | seq a b iha ihb =>
    intro env M r hr
    simp only [evC] at hr ⊢
    cases h1 : evC c n a env M with
    | none => rw [h1] at hr; cases hr
    | some y =>
      rw [h1] at hr
      rw [iha h1]
      obtain ⟨x, e, M1⟩ := y
      cases x with
      | nrm => exact ihb hr
      | ext i => exact hr
      | ret => exact hr
  | seqT a outs b iha ihb =>
    intro env M r hr
    simp only [evC] at hr ⊢
    cases h1 : evC c n a env M with
    | none => rw [h1] at hr; cases hr
    | some y =>
      rw [h1] at hr
      rw [iha h1]
      obtain ⟨x, e, M1⟩ := y
      cases x with
      | nrm => exact ihb hr
      | ext i => exact hr
      | ret => exact hr
  | cond cc a b iha ihb =>
    intro env M r hr
    simp only [evC] at hr ⊢
    split at hr
    · exact iha hr
    · exact ihb hr
    · cases hr
  | block id a ih =>
    intro env M r hr
    simp only [evC] at hr ⊢
    cases h1 : evC c n a env M with
    | none => rw [h1] at hr; cases hr
    | some y => rw [h1] at hr; rw [ih h1]; exact hr
  | loop keep pop a ih =>
    intro env M r hr
    simp only [evC] at hr ⊢
    exact iter_mono (fun e M r h => ih h) n m hn hr
  | exit id => intro env M r hr; exact hr
  | ret => intro env M r hr; exact hr
  | cut => intro env M r hr; exact hr
  | dfr _ _ _ => intro env M r hr; exact hr
  | rangeFunc g ps as body keep _ _ =>
    intro env M r hr
    simp only [evC] at hr ⊢
    split at hr
    · rename_i f first caps e
      split at hr
      · cases hr
      · rename_i v M1 h1
        rw [h _ _ _ _ h1]
        exact hr
    · cases hr

theorem runFn_mono {ev ev' : C → Env → Mem → Res} (h : ∀ c e M r, ev c e M = some r → ev' c e M = some r) {fn : IFn} {args : List AV} {M : Mem} {r} (hr : runFn ev fn args M = some r) : runFn ev' fn args M = some r := by
  unfold runFn at hr ⊢
  split at hr
  · exact hr
  split at hr
  · rename_i hl
    rw [if_pos hl]
    cases h1 : ev fn.body (paramEnv 0 args) { M with bad := none } with
    | none => rw [h1] at hr; cases hr
    | some y => rw [h1] at hr; rw [h _ _ _ _ h1]; exact hr
  · cases hr

theorem runYield_mono {ev ev' : C → Env → Mem → Res} (h : ∀ c e M r, ev c e M = some r → ev' c e M = some r) {id : Nat} {args : List AV} {M : Mem} {r} (hr : runYield ev id args M = some r) : runYield ev' id args M = some r := by
  unfold runYield at hr ⊢
  split at hr
  · rename_i ps as body env _
    split at hr
    · rename_i hl
      rw [if_pos hl]
      split at hr
      · rename_i e1 M1 h1
        rw [h _ _ _ _ h1]
        simp only
        split at hr
        · rename_i ps1 as1 body1 env1 h2
          split at hr
          · rename_i x e2 M2 h3
            rw [h _ _ _ _ h3]
            exact hr
          · cases hr
        · cases hr
      · cases hr
    · cases hr
  · cases hr

variable {T : Nat → Option IFn}

theorem callN_mono : ∀ (n m : Nat), n ≤ m → Fun.le (callN T n) (callN T m) := by
  intro n
  induction n with
  | zero => intro m _ f args M r h; cases h
  | succ n ih =>
    intro m hm f args M r h
    obtain ⟨m, rfl⟩ : ∃ q, m = q + 1 := ⟨m - 1, by omega⟩
    simp only [callN] at h ⊢
    split at h
    · split at h
      · rename_i hy
        rw [if_pos hy]
        exact runYield_mono (fun c e M r h => evC_mono (ih m (by omega)) (by omega) h) h
      · cases h
    · exact runFn_mono (fun c e M r h => evC_mono (ih m (by omega)) (by omega) h) h

/-- A call, without a bound. -/
noncomputable def Call (T : Nat → Option IFn) : Fun := fun f args M => lim fun n => callN T n f args M

theorem call_some {f : Nat} {args : List AV} {M : Mem} {r} : Call T f args M = some r ↔ ∃ n, callN T n f args M = some r :=
  lim_some fun n m r h => callN_mono n m h f args M r

/-- The code, without a bound. -/
noncomputable def Ev (T : Nat → Option IFn) (c : C) (env : Env) (M : Mem) : Res := lim fun n => evC (callN T n) n c env M

/-- A loop's rounds, without a bound. -/
noncomputable def It (T : Nat → Option IFn) (c : C) (keep : List Nat) (pop : Option (Nat × Option Nat)) (env : Env) (M : Mem) : Res := lim fun n => iter (evC (callN T n) n c) keep pop n env M

/-! The equations. -/

end Go.Am
namespace Go.Am
set_option linter.all false
open Go

mutual
theorem AV.beq_self : ∀ v : AV, AV.beq v v = true
  | .bool _ | .int _ _ | .str _ | .nilptr | .map _ | .nilmap | .yield _ | .nilfunc | .niliface | .ref _ _ _ _ | .ptr _ _ _ => by simp [AV.beq]
  | .list _ _ xs => by simp [AV.beq, AV.beqs_self xs]
  | .cptr x => by simp [AV.beq, AV.beq_self x]
  | .func _ xs ys => by simp [AV.beq, AV.beqs_self xs, AV.beqs_self ys]
  | .iface _ x => by simp [AV.beq, AV.beq_self x]
  | .agg xs => by simp [AV.beq, AV.beqs_self xs]
  | .tuple xs => by simp [AV.beq, AV.beqs_self xs]
theorem AV.beqs_self : ∀ xs : List AV, AV.beqs xs xs = true
  | [] => rfl
  | x :: xs => by simp [AV.beqs, AV.beq_self x, AV.beqs_self xs]
end

theorem stays_same {call : Fun} {op : IOp} {L : Env} {v : AV} {M : Mem} {ms : List Mem} (hms : ∀ m ∈ ms, m = M) {m : Mem} (h : evOp call L M op = some (v, m)) : ∀ (n lo : Nat), lo + n ≤ ms.length → stays call op L v ms lo n = true := by
  intro n
  induction n with
  | zero => intro lo _; rfl
  | succ n ih =>
    intro lo hlo
    have hg : ms[lo]? = some ms[lo] := List.getElem?_eq_getElem (by omega)
    have hM : ms[lo] = M := hms _ (List.getElem_mem _)
    simp only [stays, hg, hM, h, AV.beq_self, Bool.true_and]
    exact ih (lo + 1) (by omega)

/-- Do all ranges end within so many memories? -/
def fitsD (n : Nat) : List (IOper × Nat × Nat) → Bool
  | [] => true
  | (o, lo, k) :: os => (!o.op.looks || decide (lo + k ≤ n)) && fitsD n os

def effs : List (IOper × Nat × Nat) → Nat
  | [] => 0
  | (o, _) :: os => (if o.op.isEff then 1 else 0) + effs os
end Go.Am
