/- An abstract machine for the part of Go that this program uses: an object that was there stays as it was, or names nothing newer, or is booked. -/
import Derived.Test.YtdddcofggemnkaaAmDefs
namespace Go.Am
set_option linter.all false
open Go

structure Keeps (M M' : Mem) : Prop where
  len : M.objs.length ≤ M'.objs.length
  obj : ∀ (i : Nat) (o : AObj), i < M.objs.length → M'.objs[i]? = some o → (∃ o0, M.objs[i]? = some o0 ∧ ∀ n, o0.under n = true → o.under n = true) ∨ o.under (i + 1) = true ∨ ∃ b, M'.bad = some b ∧ b ≤ i
  bad : ∀ b, M.bad = some b → ∃ b', M'.bad = some b' ∧ b' ≤ b

theorem Keeps.refl (M : Mem) : Keeps M M := ⟨Nat.le_refl _, fun _ o _ h => .inl ⟨o, h, fun _ h => h⟩, fun b h => ⟨b, h, Nat.le_refl _⟩⟩

theorem Keeps.trans {a b c : Mem} (h : Keeps a b) (h' : Keeps b c) : Keeps a c := by
  refine ⟨Nat.le_trans h.len h'.len, fun i o hi ho => ?_, fun x hx => ?_⟩
  · rcases h'.obj i o (Nat.lt_of_lt_of_le hi h.len) ho with ⟨o1, h1, hu⟩ | h1 | h1
    · rcases h.obj i o1 hi h1 with ⟨o2, h2, hu2⟩ | h2 | ⟨x, h2, h3⟩
      · exact .inl ⟨o2, h2, fun n hn => hu n (hu2 n hn)⟩
      · exact .inr (.inl (hu _ h2))
      · obtain ⟨y, h4, h5⟩ := h'.bad x h2
        exact .inr (.inr ⟨y, h4, Nat.le_trans h5 h3⟩)
    · exact .inr (.inl h1)
    · exact .inr (.inr h1)
  · obtain ⟨y, h1, h2⟩ := h.bad x hx
    obtain ⟨z, h3, h4⟩ := h'.bad y h1
    exact ⟨z, h3, Nat.le_trans h4 h2⟩

theorem minBad_left (a : Option Nat) (b x : Nat) (h : a = some x) : ∃ y, minBad a (some b) = some y ∧ y ≤ x := by
  subst h; exact ⟨min x b, rfl, Nat.min_le_left _ _⟩

theorem minBad_right (a : Option Nat) (b : Nat) : ∃ y, minBad a (some b) = some y ∧ y ≤ b := by
  cases a with
  | none => exact ⟨b, rfl, Nat.le_refl _⟩
  | some x => exact ⟨min x b, rfl, Nat.min_le_right _ _⟩

theorem minBad_left' (a b : Option Nat) (x : Nat) (h : a = some x) : ∃ y, minBad a b = some y ∧ y ≤ x := by
  cases b with
  | none => subst h; exact ⟨x, rfl, Nat.le_refl _⟩
  | some b => exact minBad_left a b x h

theorem Keeps.push (M : Mem) (o : AObj) : Keeps M (M.push o) := by
  refine ⟨by simp [Mem.push], fun i x hi hx => .inl ⟨x, ?_, fun _ h => h⟩, fun b hb => ?_⟩
  · simp only [Mem.push] at hx
    rwa [List.getElem?_append_left hi] at hx
  · simp only [Mem.push]
    split
    · exact ⟨b, hb, Nat.le_refl _⟩
    · exact minBad_left _ _ _ hb

theorem Keeps.put (M : Mem) (id : Nat) (o : AObj) : Keeps M (M.put id o) := by
  refine ⟨by simp [Mem.put], fun i x hi hx => ?_, fun b hb => ?_⟩
  · simp only [Mem.put] at hx ⊢
    rw [List.getElem?_set] at hx
    split at hx
    · rename_i e
      subst e
      split at hx
      · simp only [Option.some.injEq] at hx
        subst hx
        by_cases hu : o.under (id + 1) = true
        · exact .inr (.inl hu)
        · rw [if_neg hu]
          exact .inr (.inr (minBad_right _ _))
      · rename_i hne; exact absurd hi hne
    · exact .inl ⟨_, hx, fun _ h => h⟩
  · simp only [Mem.put]
    split
    · exact ⟨b, hb, Nat.le_refl _⟩
    · exact minBad_left _ _ _ hb

theorem Keeps.mark (M : Mem) (id : Nat) (o o0 : AObj) (h0 : M.objs[id]? = some o0) (hu : ∀ n, o0.under n = true → o.under n = true) : Keeps M (M.mark id o) := by
  refine ⟨by simp [Mem.mark], fun i x hi hx => ?_, fun b hb => ⟨b, hb, Nat.le_refl _⟩⟩
  simp only [Mem.mark] at hx
  rw [List.getElem?_set] at hx
  split at hx
  · rename_i e
    subst e
    split at hx
    · simp only [Option.some.injEq] at hx
      subst hx
      exact .inl ⟨o0, h0, hu⟩
    · rename_i hne; exact absurd hi hne
  · exact .inl ⟨_, hx, fun _ h => h⟩

theorem Keeps.newRow (M : Mem) (cs : List AV) : Keeps M (M.newRow cs).2 := Keeps.push _ _

theorem aAppend_keeps {M M' : Mem} {k bytes hint : Nat} {x v : AV} {ys : List AV} (h : aAppend M k bytes x ys hint = some (v, M')) : Keeps M M' := by
  unfold aAppend at h
  repeat' split at h
  all_goals first
    | (cases h; done)
    | (simp only [Option.some.injEq, Prod.mk.injEq] at h; obtain ⟨_, rfl⟩ := h; first | exact Keeps.refl _ | exact Keeps.push _ _ | exact Keeps.put _ _ _)

theorem store_keeps {M M' : Mem} {k : Nat} {a x : AV} (h : M.store k a x = some M') : Keeps M M' := by
  unfold Mem.store at h
  repeat' split at h
  all_goals first
    | (cases h; done)
    | (simp only [Option.some.injEq] at h; subst h; exact Keeps.put _ _ _)

theorem popTo_keeps {M0 M : Mem} (h : Keeps M0 M) (env : Env) : Keeps M0 (popTo M0.objs.length M0.bad env M) := by
  unfold popTo
  split
  · rename_i hp
    simp only [Bool.and_eq_true] at hp
    refine ⟨by simp only [List.length_take]; have := h.len; omega, fun i o hi ho => ?_, fun b hb => ⟨b, hb, Nat.le_refl _⟩⟩
    simp only [List.getElem?_take] at ho
    rw [if_pos hi] at ho
    rcases h.obj i o hi ho with h1 | h1 | ⟨b, h1, h2⟩
    · exact .inl h1
    · exact .inr (.inl h1)
    · have hp2 := hp.2
      rw [h1] at hp2
      simp only [badOk, decide_eq_true_eq] at hp2
      omega
  · exact h

theorem iter_keeps {f : Env → Mem → Res} (hf : ∀ env M x env' M', f env M = some (x, env', M') → Keeps M M') {keep : List Nat} {pop : Option (Nat × Option Nat)} {M0 : Mem}
    (hp : pop = none ∨ pop = some (M0.objs.length, M0.bad)) : ∀ (m : Nat) {env env' : Env} {M M' : Mem} {x : X}, Keeps M0 M → iter f keep pop m env M = some (x, env', M') → Keeps M0 M' := by
  intro m
  induction m with
  | zero => intro env env' M M' x _ h; cases h
  | succ m ih =>
    intro env env' M M' x h0 h
    have h1 : Keeps M0 (popAt pop (env.keep keep) M) := by
      rcases hp with rfl | rfl
      · exact h0
      · exact popTo_keeps h0 _
    simp only [iter] at h
    split at h
    · rename_i env1 M1 hr
      exact ih (h1.trans (hf _ _ _ _ _ hr)) h
    · exact h1.trans (hf _ _ _ _ _ h)

theorem aClear_keeps {M M' : Mem} {k : Nat} {zero : List AV} {x : AV} (h : aClear M k zero x = some M') : Keeps M M' := by
  unfold aClear at h
  repeat' split at h
  all_goals first
    | (cases h; done)
    | (simp only [Option.some.injEq] at h; subst h; first | exact Keeps.refl _ | exact Keeps.put _ _ _)

section
variable {call : Nat → List AV → Mem → Option (AV × Mem)} (hc : ∀ f args M r M', call f args M = some (r, M') → Keeps M M')
include hc

theorem evOp_keeps {L : Env} {M M' : Mem} {v : AV} {o : IOp} (h : evOp call L M o = some (v, M')) : Keeps M M' := by
  cases o
  all_goals
    simp only [evOp] at h
    repeat' split at h
  all_goals first
    | (cases h; done)
    | (simp only [Option.some.injEq, Prod.mk.injEq] at h; obtain ⟨_, rfl⟩ := h; first | exact Keeps.refl _ | exact Keeps.push _ _ | exact Keeps.put _ _ _ | exact Keeps.newRow _ _ | (exact store_keeps (by assumption)) | (exact aClear_keeps (by assumption)))
    | exact hc _ _ _ _ _ h
    | exact aAppend_keeps h
    | (simp only [Option.some.injEq] at h; rw [← (Prod.mk.inj h).2]; exact Keeps.newRow _ _)
    | (simp only [Mem.newRow, Option.some.injEq, Prod.mk.injEq] at h; obtain ⟨_, rfl⟩ := h; exact Keeps.push _ _)

theorem evOps_keeps : ∀ {os : List IOper} {L L' : Env} {M M' : Mem}, evOps call os L M = some (L', M') → Keeps M M' := by
  intro os
  induction os with
  | nil => intro L L' M M' h; simp only [evOps, Option.some.injEq, Prod.mk.injEq] at h; obtain ⟨_, rfl⟩ := h; exact Keeps.refl _
  | cons o os ih =>
    intro L L' M M' h
    simp only [evOps] at h
    split at h
    · cases h
    · exact ih h
    · split at h
      · cases h
      · rename_i v M1 h1
        exact (evOp_keeps hc h1).trans (ih h)

theorem evOpsD_keeps : ∀ {os : List (IOper × Nat × Nat)} {L L' : Env} {M M' : Mem} {ms ms' : List Mem} {tr : List (Env × AV × Bool)}, evOpsD call os L M ms = some (L', M', ms', tr) → Keeps M M' := by
  intro os
  induction os with
  | nil => intro L L' M M' ms ms' tr h; simp only [evOpsD, Option.some.injEq, Prod.mk.injEq] at h; obtain ⟨_, rfl, _⟩ := h; exact Keeps.refl _
  | cons o os ih =>
    intro L L' M M' ms ms' tr h
    obtain ⟨o, q⟩ := o
    simp only [evOpsD] at h
    split at h
    · cases h
    · split at h
      · cases h
      · rename_i h1
        simp only [Option.some.injEq, Prod.mk.injEq] at h
        obtain ⟨_, rfl, _⟩ := h
        exact ih h1
    · split at h
      · cases h
      · rename_i v M1 h1
        split at h
        · cases h
        · rename_i h2
          simp only [Option.some.injEq, Prod.mk.injEq] at h
          obtain ⟨_, rfl, _⟩ := h
          exact (evOp_keeps hc h1).trans (ih h2)

theorem evC_keeps {n : Nat} : ∀ {c : C} {env env' : Env} {M M' : Mem} {x : X}, evC call n c env M = some (x, env', M') → Keeps M M' := by
  intro c
  induction c with
  | skip => intro env env' M M' x h; simp only [evC, Option.some.injEq, Prod.mk.injEq] at h; obtain ⟨_, _, rfl⟩ := h; exact Keeps.refl _
  | reg ops outs =>
    intro env env' M M' x h
    simp only [evC] at h
    split at h
    · cases h
    · rename_i L M1 h1
      simp only [Option.some.injEq, Prod.mk.injEq] at h; obtain ⟨_, _, rfl⟩ := h
      exact evOps_keeps hc h1
  | regD ops outs =>
    intro env env' M M' x h
    simp only [evC] at h
    split at h
    · cases h
    · rename_i L M1 ms tr h1
      split at h
      · simp only [Option.some.injEq, Prod.mk.injEq] at h; obtain ⟨_, _, rfl⟩ := h
        exact evOpsD_keeps hc h1
      · cases h
  | seq a b iha ihb =>
    intro env env' M M' x h
    simp only [evC] at h
    split at h
    · rename_i env1 M1 h1
      exact (iha h1).trans (ihb h)
    · exact iha h
  | seqT a outs b iha ihb =>
    intro env env' M M' x h
    simp only [evC] at h
    split at h
    · rename_i env1 M1 h1
      exact (iha h1).trans (ihb h)
    · exact iha h
  | cond c a b iha ihb =>
    intro env env' M M' x h
    simp only [evC] at h
    split at h
    · exact iha h
    · exact ihb h
    · cases h
  | block id a ih =>
    intro env env' M M' x h
    simp only [evC] at h
    split at h
    · rename_i i env1 M1 h1
      split at h <;> (simp only [Option.some.injEq, Prod.mk.injEq] at h; obtain ⟨_, _, rfl⟩ := h; exact ih h1)
    · exact ih h
  | loop keep pop a ih =>
    intro env env' M M' x h
    simp only [evC] at h
    refine iter_keeps (fun env M x env' M' h => ih h) (M0 := M) ?_ n (Keeps.refl M) h
    cases pop
    · exact .inl rfl
    · exact .inr rfl
  | exit id => intro env env' M M' x h; simp only [evC, Option.some.injEq, Prod.mk.injEq] at h; obtain ⟨_, _, rfl⟩ := h; exact Keeps.refl _
  | ret => intro env env' M M' x h; simp only [evC, Option.some.injEq, Prod.mk.injEq] at h; obtain ⟨_, _, rfl⟩ := h; exact Keeps.refl _
  | rangeFunc g ps as body keep _ _ =>
    intro env env' M M' x h
    simp only [evC] at h
    split at h
    · split at h
      · cases h
      · rename_i v M1 h1
        have h2 := (Keeps.push M _).trans (hc _ _ _ _ _ h1)
        split at h
        · rename_i h3
          simp only [Option.some.injEq, Prod.mk.injEq] at h; obtain ⟨_, _, rfl⟩ := h
          exact h2.trans (Keeps.mark _ _ _ _ h3 fun _ _ => rfl)
        · rename_i h3
          simp only [Option.some.injEq, Prod.mk.injEq] at h; obtain ⟨_, _, rfl⟩ := h
          exact h2.trans (Keeps.mark _ _ _ _ h3 fun _ _ => rfl)
        · cases h
    · cases h
end

theorem shrink_keeps {M M' : Mem} (h : Keeps { M with bad := none } M') (pop : Bool) (r : AV) : Keeps M (shrink M.objs.length M.bad pop r M') := by
  unfold shrink
  split
  · rename_i hp
    simp only [Bool.and_eq_true] at hp
    refine ⟨by simp only [List.length_take]; have := h.len; simp only at this; omega, fun i o hi ho => ?_, fun b hb => ⟨b, hb, Nat.le_refl _⟩⟩
    simp only [List.getElem?_take] at ho
    rw [if_pos hi] at ho
    rcases h.obj i o hi ho with h1 | h1 | ⟨b, h1, h2⟩
    · exact .inl h1
    · exact .inr (.inl h1)
    · have hp2 := hp.2
      rw [h1] at hp2
      simp only [badOk, decide_eq_true_eq] at hp2
      omega
  · refine ⟨h.len, fun i o hi ho => ?_, fun b hb => minBad_left' _ _ _ hb⟩
    rcases h.obj i o hi ho with h1 | h1 | ⟨b, h1, h2⟩
    · exact .inl h1
    · exact .inr (.inl h1)
    · rw [h1]
      obtain ⟨y, hy, hy2⟩ := minBad_right M.bad b
      exact .inr (.inr ⟨y, hy, Nat.le_trans hy2 h2⟩)

theorem runFn_keeps {ev : C → Env → Mem → Res} (he : ∀ c env M x env' M', ev c env M = some (x, env', M') → Keeps M M') {fn : IFn} (ho : ∀ args M r M', fn.orc args M = some (r, M') → Keeps M M') {args : List AV} {M M' : Mem} {r : AV}
    (h : runFn ev fn args M = some (r, M')) : Keeps M M' := by
  unfold runFn at h
  split at h
  · rename_i h1
    simp only [Option.some.injEq] at h
    subst h
    exact ho _ _ _ _ h1
  split at h
  · split at h
    · split at h
      · cases h
      · simp only [Option.some.injEq, Prod.mk.injEq] at h
        obtain ⟨_, rfl⟩ := h
        exact shrink_keeps (he _ _ _ _ _ _ (by assumption)) _ _
    · split at h
      · cases h
      · simp only [Option.some.injEq, Prod.mk.injEq] at h
        obtain ⟨_, rfl⟩ := h
        exact shrink_keeps (he _ _ _ _ _ _ (by assumption)) _ _
    · cases h
  · cases h

theorem runYield_keeps {ev : C → Env → Mem → Res} (he : ∀ c env M x env' M', ev c env M = some (x, env', M') → Keeps M M') {id : Nat} {args : List AV} {M M' : Mem} {r : AV}
    (h : runYield ev id args M = some (r, M')) : Keeps M M' := by
  unfold runYield at h
  split at h
  · split at h
    · split at h
      · rename_i e1 M1 h1
        split at h
        · rename_i h2
          split at h
          · rename_i x e2 M2 h3
            split at h
            · rename_i h4
              simp only [Option.some.injEq, Prod.mk.injEq] at h; obtain ⟨_, rfl⟩ := h
              exact (((he _ _ _ _ _ _ h1).trans (Keeps.mark M1 id (.loop _ _ _ _ .busy) _ h2 fun _ h => h)).trans (he _ _ _ _ _ _ h3)).trans (Keeps.mark _ _ _ _ h4 fun _ h => h)
            · cases h
          · cases h
        · cases h
      · cases h
    · cases h
  · cases h

theorem callN_keeps {T : Nat → Option IFn} (hT : ∀ f fn, T f = some fn → ∀ args M r M', fn.orc args M = some (r, M') → Keeps M M') : ∀ (n : Nat) (f : Nat) (args : List AV) (M : Mem) (r : AV) (M' : Mem), callN T n f args M = some (r, M') → Keeps M M' := by
  intro n
  induction n with
  | zero => intro f args M r M' h; cases h
  | succ n ih =>
    intro f args M r M' h
    simp only [callN] at h
    split at h
    · split at h
      · exact runYield_keeps (fun c env M x env' M' h => evC_keeps ih h) h
      · cases h
    · rename_i fn hfn
      exact runFn_keeps (fun c env M x env' M' h => evC_keeps ih h) (hT f fn hfn) h

end Go.Am
