/- An abstract machine for the part of Go that this program uses: the runs of comparisons and of maps. -/
import Derived.Test.YtdddcofggemnkaaAmOps8
import Derived.Laws.StructEq
namespace Go.Am
set_option linter.all false
open Go Go.RowKit

def vEq1 : EK → Value → Value → Option Bool
  | .b, .bool a, .bool b => some (a == b)
  | .i, .int k a, .int k' b => if k = k' then some (a == b) else none
  | .s, .string a, .string b => some (a.toList == b.toList)
  | _, _, _ => none

def vEq : List EK → List Value → List Value → Option Bool
  | [], [], [] => some true
  | k :: ks, x :: xs, y :: ys => match vEq1 k x y with
    | none => none
    | some b => match vEq ks xs ys with
      | none => none
      | some c => some (b && c)
  | _, _, _ => none

mutual
/-- The cells of a type whose values are compared cell by cell. -/
def eqShape (P : Program) : Nat → TypeId → Option (List EK)
  | 0, _ => none
  | d + 1, t =>
    match P.underlying t with
    | some .bool => if szOf P t = some 1 then some [.b] else none
    | some (.int _) => if szOf P t = some 1 then some [.i] else none
    | some .string => if szOf P t = some 1 then some [.s] else none
    | some (.struct fs) => if P.stoodInHeld t = false then
        match eqShapeFields P d fs.toList 0 with
        | some ks => if szOf P t = some ks.length then some ks else none
        | none => none
      else none
    | some (.array n e) => match eqShape P d e with
      | some ks => if szOf P t = some (n * ks.length) ∧ szOf P e = some ks.length ∧ 0 < ks.length then some ((List.replicate n ks).flatten) else none
      | none => none
    | _ => none
def eqShapeFields (P : Program) : Nat → List Field → Nat → Option (List EK)
  | _, [], _ => some []
  | 0, _ :: _, _ => none
  | d + 1, f :: fs, off =>
    if f.name ≠ "_" ∧ f.offset = off then
      match eqShape P d f.type with
      | some ks => if szOf P f.type = some ks.length ∧ 0 < ks.length then
          match eqShapeFields P d fs (off + ks.length) with
          | some rs => some (ks ++ rs)
          | none => none
        else none
      | none => none
    else none
end

section
variable {P : Program} {w0 : Base} {w : World} {s : Sim} {M : Mem}

theorem vEq_len : ∀ {ks : List EK} {xs ys : List Value} {r : Bool}, vEq ks xs ys = some r → xs.length = ks.length ∧ ys.length = ks.length := by
  intro ks
  induction ks with
  | nil => intro xs ys r h; cases xs <;> cases ys <;> simp_all [vEq]
  | cons k ks ih =>
    intro xs ys r h
    cases xs <;> cases ys <;> simp only [vEq] at h
    · cases h
    · cases h
    · cases h
    · split at h
      · cases h
      · split at h
        · cases h
        · rename_i e2
          have := ih e2
          simp [this]

theorem vEq_append : ∀ {ks rs : List EK} {xs ys : List Value} {r : Bool}, vEq (ks ++ rs) xs ys = some r →
    ∃ a b, vEq ks (xs.take ks.length) (ys.take ks.length) = some a ∧ vEq rs (xs.drop ks.length) (ys.drop ks.length) = some b ∧ r = (a && b) := by
  intro ks
  induction ks with
  | nil => intro rs xs ys r h; exact ⟨true, r, by simp [vEq], by simpa using h, by simp⟩
  | cons k ks ih =>
    intro rs xs ys r h
    cases xs <;> cases ys <;> simp only [List.cons_append, vEq] at h
    · cases h
    · cases h
    · cases h
    · split at h
      · cases h
      · rename_i b1 e1
        split at h
        · cases h
        · rename_i c e2
          simp only [Option.some.injEq] at h
          obtain ⟨a, b, h1, h2, rfl⟩ := ih e2
          refine ⟨b1 && a, b, by simp [vEq, e1, h1], by simpa using h2, ?_⟩
          rw [← h, Bool.and_assoc]

theorem vEq_one {k : EK} {xs ys : List Value} {r : Bool} (h : vEq [k] xs ys = some r) : ∃ x y, xs = [x] ∧ ys = [y] ∧ vEq1 k x y = some r := by
  obtain ⟨h1, h2⟩ := vEq_len h
  obtain ⟨x, rfl⟩ := List.length_eq_one_iff.1 h1
  obtain ⟨y, rfl⟩ := List.length_eq_one_iff.1 h2
  refine ⟨x, y, rfl, rfl, ?_⟩
  cases h3 : vEq1 k x y with
  | none => simp [vEq, h3] at h
  | some b => simp [vEq, h3] at h; rw [h]

def packV (g : Bool) (xs : List Value) : Value := if g then .agg xs.toArray else xs.headD undef

theorem part_packV {t : TypeId} {g : Bool} {n off : Nat} {cs : List Value} (hg : aggOf P t = some g) (hn : szOf P t = some n) (h1 : g = false → n = 1) (hl : off + n ≤ cs.length) :
    (part t cs.toArray off).run P w = .ok (packV g ((cs.drop off).take n)) w := by
  cases g with
  | true =>
    simp only [part, Sem.run_bind, run_isAgg hg, Result.andThen_ok, if_true, run_sizeOf hn, Sem.run_pure, packV]
    congr 2
    apply Array.ext'
    simp [List.extract_eq_take_drop]
  | false =>
    have h1 := h1 rfl
    subst h1
    have hlt : off < cs.length := by omega
    simp only [part, Sem.run_bind, run_isAgg hg, Result.andThen_ok, Bool.false_eq_true, if_false, packV, List.getElem?_toArray, List.getElem?_eq_getElem hlt, Sem.run_pure]
    congr 1
    have : (cs.drop off).take 1 = [cs[off]] := by
      rw [List.drop_eq_getElem_cons hlt]; rfl
    rw [this]; rfl

theorem eqShape_agg {d : Nat} {t : TypeId} {ks : List EK} (h : eqShape P d t = some ks) : ∃ g, aggOf P t = some g ∧ szOf P t = some ks.length ∧ (g = false → ks.length = 1) := by
  cases d with
  | zero => simp [eqShape] at h
  | succ d =>
    rw [eqShape] at h
    unfold aggOf
    split at h
    · rename_i hu; split at h
      · rename_i hs; simp only [Option.some.injEq] at h; subst h; exact ⟨false, by simp [hu], hs, fun _ => rfl⟩
      · cases h
    · rename_i k hu; split at h
      · rename_i hs; simp only [Option.some.injEq] at h; subst h; exact ⟨false, by simp [hu], hs, fun _ => rfl⟩
      · cases h
    · rename_i hu; split at h
      · rename_i hs; simp only [Option.some.injEq] at h; subst h; exact ⟨false, by simp [hu], hs, fun _ => rfl⟩
      · cases h
    · rename_i fs hu
      split at h
      · split at h
        · split at h
          · rename_i hs; simp only [Option.some.injEq] at h; subst h; exact ⟨true, by simp [hu], hs, fun e => by cases e⟩
          · cases h
        · cases h
      · cases h
    · rename_i n e hu
      split at h
      · rename_i ks' _
        split at h
        · rename_i hs; simp only [Option.some.injEq] at h; subst h
          exact ⟨true, by simp [hu], by rw [hs.1]; simp, fun e => by cases e⟩
        · cases h
      · cases h
    · cases h

theorem eqIn_run : ∀ (d : Nat),
    (∀ (d' : Nat) (t : TypeId) (ks : List EK) (g : Bool) (xs ys : List Value) (r : Bool), d ≤ d' → eqShape P d t = some ks → aggOf P t = some g → vEq ks xs ys = some r → (Op.equalIn d' t (packV g xs) (packV g ys)).run P w = .ok r w) ∧
    (∀ (d' : Nat) (fs : List Field) (off : Nat) (ks : List EK) (xs ys : List Value) (r : Bool), d ≤ d' → eqShapeFields P d fs off = some ks → vEq ks (xs.drop off) (ys.drop off) = some r → (Op.eqFields d' xs.toArray ys.toArray fs).run P w = .ok r w) := by
  intro d
  induction d with
  | zero =>
    refine ⟨fun d' t ks g xs ys r _ h => by simp [eqShape] at h, fun d' fs off ks xs ys r _ h hv => ?_⟩
    cases fs with
    | nil =>
      simp only [eqShapeFields, Option.some.injEq] at h; subst h
      generalize xs.drop off = a at hv
      generalize ys.drop off = b at hv
      cases a <;> cases b <;> simp [vEq] at hv
      subst hv
      simp [Op.eqFields]
    | cons f fs => simp [eqShapeFields] at h
  | succ d ih =>
    obtain ⟨ih1, ih2⟩ := ih
    refine ⟨fun d' t ks g xs ys r hd h hg hv => ?_, fun d' fs off ks xs ys r hd h hv => ?_⟩
    · obtain ⟨d', rfl⟩ : ∃ q, d' = q + 1 := ⟨d' - 1, by omega⟩
      have hd1 : d ≤ d' := by omega
      rw [eqShape] at h
      split at h
      · rename_i hu; split at h
        · simp only [Option.some.injEq] at h; subst h
          have : g = false := by simpa [aggOf, hu] using hg.symm
          subst this
          obtain ⟨x, y, rfl, rfl, h1⟩ := vEq_one hv
          cases x <;> cases y <;> first | (simp only [vEq1] at h1; cases h1; done) | skip
          simp only [vEq1, Option.some.injEq] at h1
          subst h1
          simpa [packV] using run_equalIn_bool' (P := P) w d' t _ _ hu
        · cases h
      · rename_i k hu; split at h
        · simp only [Option.some.injEq] at h; subst h
          have : g = false := by simpa [aggOf, hu] using hg.symm
          subst this
          obtain ⟨x, y, rfl, rfl, h1⟩ := vEq_one hv
          cases x <;> cases y <;> first | (simp only [vEq1] at h1; cases h1; done) | skip
          rename_i k1 a k2 b
          simp only [vEq1] at h1
          split at h1
          · rename_i hk
            subst hk
            simp only [Option.some.injEq] at h1
            subst h1
            simpa [packV] using run_equalIn_int (P := P) w d' t k1 k a b hu
          · cases h1
        · cases h
      · rename_i hu; split at h
        · simp only [Option.some.injEq] at h; subst h
          have : g = false := by simpa [aggOf, hu] using hg.symm
          subst this
          obtain ⟨x, y, rfl, rfl, h1⟩ := vEq_one hv
          cases x <;> cases y <;> first | (simp only [vEq1] at h1; cases h1; done) | skip
          simp only [vEq1, Option.some.injEq] at h1
          subst h1
          simpa [packV] using run_equalIn_string (P := P) w d' t _ _ hu
        · cases h
      · rename_i fs hu
        split at h
        · rename_i hst
          split at h
          · rename_i ks' hf
            split at h
            · simp only [Option.some.injEq] at h; subst h
              have : g = true := by simpa [aggOf, hu] using hg.symm
              subst this
              have hfo : P.fieldsOf t = fs := by simp [Program.fieldsOf, hu]
              simp only [packV, if_true]
              rw [run_equalIn_struct w d' t _ _ (by rw [hfo]; exact hu) hst, hfo]
              exact ih2 d' fs.toList 0 ks' xs ys r hd1 hf (by simpa using hv)
            · cases h
          · cases h
        · cases h
      · rename_i n e hu
        split at h
        · rename_i ks' hf
          split at h
          · rename_i hs
            simp only [Option.some.injEq] at h; subst h
            have : g = true := by simpa [aggOf, hu] using hg.symm
            subst this
            obtain ⟨ge, hge, hse, h1⟩ := eqShape_agg hf
            simp only [packV, if_true, Op.equalIn, Sem.run_bind, run_underlying hu, Result.andThen_ok, run_sizeOf hse]
            -- element by element
            have key : ∀ (m i : Nat) (r : Bool), vEq ((List.replicate m ks').flatten) (xs.drop (i * ks'.length)) (ys.drop (i * ks'.length)) = some r →
                ((forIn (List.range' i m 1) (none, ()) fun i (_ : Option Bool × Unit) => do
                    let a ← part e xs.toArray (i * ks'.length)
                    let b ← part e ys.toArray (i * ks'.length)
                    let q ← Op.equalIn d' e a b
                    if (!q) = true then pure (ForInStep.done (some false, ())) else pure (ForInStep.yield (none, ())) : Sem (Option Bool × Unit)).run P w = .ok (if r then none else some false, ()) w) := by
              intro m
              induction m with
              | zero =>
                intro i r hv
                simp only [List.replicate_zero, List.flatten_nil] at hv
                generalize xs.drop (i * ks'.length) = a at hv
                generalize ys.drop (i * ks'.length) = b at hv
                cases a <;> cases b <;> simp [vEq] at hv
                subst hv
                simp
              | succ m ihm =>
                intro i r hv
                have hlens := vEq_len hv
                simp only [List.length_drop, List.length_flatten, List.map_replicate, List.sum_replicate_nat] at hlens
                rw [List.replicate_succ, List.flatten_cons] at hv
                obtain ⟨a, b, q1, q2, rfl⟩ := vEq_append hv
                have hmul : (m + 1) * ks'.length = m * ks'.length + ks'.length := by rw [Nat.add_mul, Nat.one_mul]
                have hx := part_packV (P := P) (w := w) (off := i * ks'.length) (cs := xs) hge hse h1 (by omega)
                have hy := part_packV (P := P) (w := w) (off := i * ks'.length) (cs := ys) hge hse h1 (by omega)
                have he := ih1 d' e ks' ge _ _ a hd1 hf hge q1
                rw [List.range'_succ]
                simp only [List.forIn_cons, Sem.run_bind, hx, hy, he, Result.andThen_ok]
                cases a with
                | false => simp
                | true =>
                  simp only [Bool.not_true, Bool.false_eq_true, if_false, Sem.run_pure, Result.andThen_ok, Bool.true_and]
                  refine ihm (i + 1) b ?_
                  have e3 : (i + 1) * ks'.length = i * ks'.length + ks'.length := by rw [Nat.add_mul, Nat.one_mul]
                  rw [e3, ← List.drop_drop, ← List.drop_drop]
                  exact q2
            have hk := key n 0 r (by simpa using hv)
            rw [Std.Legacy.Range.forIn_eq_forIn_range']
            simp only [Std.Legacy.Range.size, Nat.sub_zero, Nat.add_sub_cancel, Nat.div_one]
            rw [hk]
            cases r <;> simp
          · cases h
        · cases h
      · cases h
    · cases fs with
      | nil =>
        simp only [eqShapeFields, Option.some.injEq] at h; subst h
        generalize xs.drop off = a at hv
        generalize ys.drop off = b at hv
        cases a <;> cases b <;> simp [vEq] at hv
        subst hv
        simp [Op.eqFields]
      | cons f fs =>
        simp only [eqShapeFields] at h
        split at h
        · rename_i hc
          obtain ⟨hname, rfl⟩ := hc
          split at h
          · rename_i ks' hf
            split at h
            · rename_i hsz
              split at h
              · rename_i rs hr
                simp only [Option.some.injEq] at h; subst h
                have hlens := vEq_len hv
                simp only [List.length_drop, List.length_append] at hlens
                obtain ⟨a, b, q1, q2, rfl⟩ := vEq_append hv
                obtain ⟨ge, hge, hse, h1⟩ := eqShape_agg hf
                have hx := part_packV (P := P) (w := w) (off := f.offset) (cs := xs) hge hse h1 (by omega)
                have hy := part_packV (P := P) (w := w) (off := f.offset) (cs := ys) hge hse h1 (by omega)
                have he := ih1 d' f.type ks' ge _ _ a (by omega) hf hge q1
                simp only [Op.eqFields, hname, ne_eq, not_false_eq_true, if_true, Sem.run_bind, hx, hy, he, Result.andThen_ok]
                cases a with
                | false => simp
                | true =>
                  simp only [Bool.not_true, Bool.false_eq_true, if_false, Bool.true_and]
                  exact ih2 d' fs (f.offset + ks'.length) rs xs ys b (by omega) hr (by simpa [List.drop_drop] using q2)
              · cases h
            · cases h
          · cases h
        · cases h

theorem eq1_vEq1 {k : EK} {x y : AV} {vx vy : Value} {r : Bool} (hx : VR s x vx) (hy : VR s y vy) (h : AV.eq1 k x y = some r) : vEq1 k vx vy = some r := by
  unfold AV.eq1 at h
  split at h
  · rw [hx.bool_inv, hy.bool_inv]; exact h
  · rw [hx.int_inv, hy.int_inv]; exact h
  · rw [hx.str_inv, hy.str_inv]; exact h
  · cases h

theorem eqCells_vEq : ∀ {ks : List EK} {xs ys : List AV} {vx vy : List Value} {r : Bool}, xs.length = vx.length → ys.length = vy.length → (∀ (i : Nat) (x : AV) (v : Value), xs[i]? = some x → vx[i]? = some v → VR s x v) →
    (∀ (i : Nat) (x : AV) (v : Value), ys[i]? = some x → vy[i]? = some v → VR s x v) → AV.eqCells ks xs ys = some r → vEq ks vx vy = some r := by
  intro ks
  induction ks with
  | nil =>
    intro xs ys vx vy r h1 h2 h3 h4 h
    cases xs <;> cases ys <;> simp only [AV.eqCells] at h
    · cases vx <;> cases vy <;> simp_all [vEq]
    · cases h
    · cases h
    · cases h
  | cons k ks ih =>
    intro xs ys vx vy r h1 h2 h3 h4 h
    cases xs <;> cases ys <;> simp only [AV.eqCells] at h
    · cases h
    · cases h
    · cases h
    · rename_i x xs y ys
      cases vx with
      | nil => simp at h1
      | cons u vx =>
        cases vy with
        | nil => simp at h2
        | cons v vy =>
          split at h
          · cases h
          · rename_i b e1
            split at h
            · cases h
            · rename_i c e2
              simp only [Option.some.injEq] at h
              subst h
              have g1 := eq1_vEq1 (h3 0 x u rfl rfl) (h4 0 y v rfl rfl) e1
              have g2 := ih (vx := vx) (vy := vy) (by simpa using h1) (by simpa using h2) (fun i x v hx hv => h3 (i + 1) x v (by simpa using hx) (by simpa using hv)) (fun i x v hx hv => h4 (i + 1) x v (by simpa using hx) (by simpa using hv)) e2
              simp [vEq, g1, g2]

theorem eqCells_len : ∀ {ks : List EK} {xs ys : List AV} {r : Bool}, AV.eqCells ks xs ys = some r → xs.length = ks.length ∧ ys.length = ks.length := by
  intro ks
  induction ks with
  | nil => intro xs ys r h; cases xs <;> cases ys <;> simp_all [AV.eqCells]
  | cons k ks ih =>
    intro xs ys r h
    cases xs <;> cases ys <;> simp only [AV.eqCells] at h
    · cases h
    · cases h
    · cases h
    · split at h
      · cases h
      · split at h
        · cases h
        · rename_i e2
          have := ih e2
          simp [this]

theorem VR.packV {x : AV} {v : Value} (h : VR s x v) : v = Am.packV x.isAgg v.cells.toList := by
  cases h <;> simp [Am.packV, AV.isAgg, Value.cells]

theorem equal_run {t : TypeId} {d : Nat} {ks : List EK} {x y : AV} {vx vy : Value} {r : Bool} (hd : d ≤ 10000) (hs : eqShape P d t = some ks) (hg : aggOf P t = some x.isAgg) (hg2 : y.isAgg = x.isAgg) (hx : VR s x vx) (hy : VR s y vy)
    (h : AV.eqCells ks x.cells y.cells = some r) : (Op.equalIn 10000 t vx vy).run P w = .ok r w := by
  have h1 := hx.cells
  have h2 := hy.cells
  have hv := eqCells_vEq (s := s) (vx := vx.cells.toList) (vy := vy.cells.toList) (by simpa using h1.1) (by simpa using h2.1) (fun i x v hx hv => h1.2 i x v hx (by simpa using hv)) (fun i x v hx hv => h2.2 i x v hx (by simpa using hv)) h
  have := (eqIn_run (P := P) (w := w) d).1 10000 t ks x.isAgg _ _ r hd hs hg hv
  rwa [← hx.packV, ← hg2, ← hy.packV] at this

def okEQ (P : Program) (t : TypeId) (q : EQ) : Bool :=
  decide (eqShape P 20 t = some q.ks) && decide (aggOf P t = some q.ag)

theorem eqv_run {t : TypeId} {q : EQ} {x y : AV} {vx vy : Value} {r : Bool} (hq : okEQ P t q = true) (hx : VR s x vx) (hy : VR s y vy) (h : AV.eqv q x y = some r) : (Op.equalIn 10000 t vx vy).run P w = .ok r w := by
  simp only [okEQ, Bool.and_eq_true, decide_eq_true_eq] at hq
  unfold AV.eqv at h
  split at h
  · rename_i hc
    exact equal_run (d := 20) (by omega) hq.1 (by rw [hq.2, hc.1]) (by rw [hc.1, hc.2]) hx hy h
  · cases h

end
end Go.Am
