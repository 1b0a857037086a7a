/- An abstract machine for the part of Go that this program uses: the runs of maps. -/
import Derived.Test.YtdddcofggemnkaaAmOps9
namespace Go.Am
set_option linter.all false
open Go Go.RowKit

section
variable {P : Program} {w0 : Base} {w : World} {s : Sim} {M : Mem}

/-- Keys that are compared cell by cell may be keys. -/
theorem checkKey_run (empty : Bool) : ∀ (d : Nat),
    (∀ (d' : Nat) (t : TypeId) (ks : List EK) (g : Bool) (xs : List Value), d ≤ d' → eqShape P d t = some ks → aggOf P t = some g → xs.length = ks.length → (Instr.checkKey empty d' t (packV g xs)).run P w = .ok () w) ∧
    (∀ (d' : Nat) (fs : List Field) (off : Nat) (ks : List EK) (xs : List Value), d ≤ d' → eqShapeFields P d fs off = some ks → off + ks.length ≤ xs.length →
      (forIn fs PUnit.unit fun f (_ : PUnit) => (if f.name ≠ "_" then do
          let a ← part f.type xs.toArray f.offset
          Instr.checkKey empty d' f.type a
          pure (ForInStep.yield PUnit.unit)
        else pure (ForInStep.yield PUnit.unit) : Sem (ForInStep PUnit))).run P w = .ok PUnit.unit w) := by
  intro d
  induction d with
  | zero =>
    refine ⟨fun d' t ks g xs _ h => by simp [eqShape] at h, fun d' fs off ks xs _ h _ => ?_⟩
    cases fs with
    | nil => simp
    | cons f fs => simp [eqShapeFields] at h
  | succ d ih =>
    obtain ⟨ih1, ih2⟩ := ih
    refine ⟨fun d' t ks g xs hd h hg hl => ?_, fun d' fs off ks xs hd h hl => ?_⟩
    · obtain ⟨d', rfl⟩ : ∃ q, d' = q + 1 := ⟨d' - 1, by omega⟩
      have hd1 : d ≤ d' := by omega
      rw [eqShape] at h
      split at h
      · rename_i hu; simp [Instr.checkKey, run_underlying hu]
      · rename_i k hu; simp [Instr.checkKey, run_underlying hu]
      · rename_i hu; simp [Instr.checkKey, run_underlying hu]
      · rename_i fs hu
        split at h
        · split at h
          · rename_i ks' hf
            split at h
            · simp only [Option.some.injEq] at h; subst h
              have : g = true := by simpa [aggOf, hu] using hg.symm
              subst this
              have := ih2 d' fs.toList 0 ks' xs hd1 hf (by omega)
              simp only [packV, if_true, Instr.checkKey, Sem.run_bind, run_underlying hu, Result.andThen_ok]
              rw [← Array.forIn_toList]
              simp only [ne_eq, Sem.run_bind] at this ⊢
              rw [this]
              rfl
            · cases h
          · cases h
        · cases h
      · rename_i n e hu
        split at h
        · rename_i ks' hf
          split at h
          · rename_i hs
            simp only [Option.some.injEq] at h; subst h
            have : g = true := by simpa [aggOf, hu] using hg.symm
            subst this
            obtain ⟨ge, hge, hse, h1⟩ := eqShape_agg hf
            simp only [List.length_flatten, List.map_replicate, List.sum_replicate_nat] at hl
            have key : ∀ (m i : Nat), (i + m) * ks'.length ≤ xs.length →
                ((forIn (List.range' i m 1) PUnit.unit fun i (_ : PUnit) => do
                    let n ← sizeOf e
                    let a ← part e xs.toArray (i * n)
                    Instr.checkKey empty d' e a
                    pure (ForInStep.yield PUnit.unit) : Sem PUnit).run P w = .ok PUnit.unit w) := by
              intro m
              induction m with
              | zero => intro i _; simp
              | succ m ihm =>
                intro i hb
                have e1 : (i + (m + 1)) * ks'.length = i * ks'.length + (m * ks'.length + ks'.length) := by
                  rw [Nat.add_mul, Nat.add_mul, Nat.one_mul]
                have hx := part_packV (P := P) (w := w) (off := i * ks'.length) (cs := xs) hge hse h1 (by omega)
                have hc := ih1 d' e ks' ge ((xs.drop (i * ks'.length)).take ks'.length) hd1 hf hge (by simp; omega)
                rw [List.range'_succ]
                simp only [List.forIn_cons, Sem.run_bind, run_sizeOf hse, hx, hc, Result.andThen_ok, Sem.run_pure]
                exact ihm (i + 1) (by
                  have e2 : (i + 1 + m) = i + (m + 1) := by omega
                  rw [e2]; exact hb)
            have hk := key n 0 (by simpa using Nat.le_of_eq hl.symm)
            simp only [packV, if_true, Instr.checkKey, Sem.run_bind, run_underlying hu, Result.andThen_ok]
            rw [Std.Legacy.Range.forIn_eq_forIn_range']
            simp only [Std.Legacy.Range.size, Nat.sub_zero, Nat.add_sub_cancel, Nat.div_one]
            rw [hk]
            rfl
          · cases h
        · cases h
      · cases h
    · cases fs with
      | nil => simp
      | cons f fs =>
        simp only [eqShapeFields] at h
        split at h
        · rename_i hc
          obtain ⟨hname, rfl⟩ := hc
          split at h
          · rename_i ks' hf
            split at h
            · rename_i hsz
              split at h
              · rename_i rs hr
                simp only [Option.some.injEq] at h; subst h
                simp only [List.length_append] at hl
                obtain ⟨ge, hge, hse, h1⟩ := eqShape_agg hf
                have hx := part_packV (P := P) (w := w) (off := f.offset) (cs := xs) hge hse h1 (by omega)
                have hck := ih1 d' f.type ks' ge ((xs.drop f.offset).take ks'.length) (by omega) hf hge (by simp; omega)
                have hrest := ih2 d' fs (f.offset + ks'.length) rs xs (by omega) hr (by omega)
                simp only [List.forIn_cons, Sem.run_bind, hname, ne_eq, not_false_eq_true, if_true, hx, hck, Result.andThen_ok, Sem.run_pure]
                exact hrest
              · cases h
            · cases h
          · cases h
        · cases h

theorem eqv_key {t : TypeId} {q : EQ} {x : AV} {vx : Value} (empty : Bool) (hq : okEQ P t q = true) (hx : VR s x vx) (hl : x.cells.length = q.ks.length) (hg : x.isAgg = q.ag) : (Instr.checkKey empty 10000 t vx).run P w = .ok () w := by
  simp only [okEQ, Bool.and_eq_true, decide_eq_true_eq] at hq
  have h1 := hx.cells.1
  have := (checkKey_run (P := P) (w := w) empty 20).1 10000 t q.ks q.ag vx.cells.toList (by omega) hq.1 hq.2 (by simp; omega)
  rwa [← hg, ← hx.packV] at this

theorem vEq1_same {k : EK} {x y : Value} (h : vEq1 k x y = some true) : x = y ∧ ∀ n, Instr.sameBits n x y = true := by
  unfold vEq1 at h
  split at h
  · simp at h; subst h; exact ⟨rfl, fun n => by simp [Instr.sameBits]⟩
  · split at h
    · rename_i e; subst e; simp at h; subst h; exact ⟨rfl, fun n => by simp [Instr.sameBits]⟩
    · cases h
  · rename_i a b
    simp only [Option.some.injEq] at h
    have h1 : a.toList = b.toList := by simpa using h
    have : a = b := by
      rw [ByteArray.toList_eq, ByteArray.toList_eq] at h1
      cases a; cases b
      simp only [ByteArray.mk.injEq]
      exact Array.toList_inj.1 h1
    subst this
    exact ⟨rfl, fun n => by simp only [Instr.sameBits]; rw [beq_toListBytes]; simp⟩
  · cases h

theorem vEq_same : ∀ {ks : List EK} {xs ys : List Value}, vEq ks xs ys = some true → xs = ys ∧ ∀ n, ((xs.zip ys).all fun (x, y) => Instr.sameBits n x y) = true := by
  intro ks
  induction ks with
  | nil => intro xs ys h; cases xs <;> cases ys <;> simp_all [vEq]
  | cons k ks ih =>
    intro xs ys h
    cases xs <;> cases ys <;> simp only [vEq] at h
    · cases h
    · cases h
    · cases h
    · split at h
      · cases h
      · rename_i b e1
        split at h
        · cases h
        · rename_i c e2
          simp only [Option.some.injEq, Bool.and_eq_true] at h
          obtain ⟨rfl, rfl⟩ := h
          obtain ⟨rfl, h1⟩ := vEq1_same e1
          obtain ⟨rfl, h2⟩ := ih e2
          exact ⟨rfl, fun n => by simpa [h1 n] using h2 n⟩

theorem sameBits_agg (n : Nat) (xs : List Value) (h : ((xs.zip xs).all fun (x, y) => Instr.sameBits n x y) = true) : Instr.sameBits (n + 1) (.agg xs.toArray) (.agg xs.toArray) = true := by
  simp only [Instr.sameBits, beq_self_eq_true, Bool.true_and]
  exact h

theorem eqv_same {q : EQ} {x y : AV} {vx vy : Value} (hx : VR s x vx) (hy : VR s y vy) (h : AV.eqv q x y = some true) : vx = vy ∧ Instr.sameBits 10000 vx vy = true := by
  unfold AV.eqv at h
  split at h
  · rename_i hc
    have h1 := hx.cells
    have h2 := hy.cells
    have hv := eqCells_vEq (s := s) (vx := vx.cells.toList) (vy := vy.cells.toList) (by simpa using h1.1) (by simpa using h2.1) (fun i x v hx hv => h1.2 i x v hx (by simpa using hv)) (fun i x v hx hv => h2.2 i x v hx (by simpa using hv)) h
    obtain ⟨h3, h4⟩ := vEq_same hv
    have e1 := hx.packV
    have e2 := hy.packV
    rw [hc.1] at e1
    rw [hc.2] at e2
    have e3 : vx = vy := by rw [e1, e2, h3]
    refine ⟨e3, ?_⟩
    subst e3
    cases hqa : q.ag with
    | true =>
      rw [hqa] at e1
      rw [e1]
      exact sameBits_agg 9999 vx.cells.toList (h4 9999)
    | false =>
      rw [hqa] at e1
      cases hkk : q.ks with
      | nil =>
        rw [hkk] at hv
        have := (vEq_len hv).1
        have hx0 : x.cells.length = 0 := by rw [h1.1]; simpa using this
        exfalso
        have hna := hc.1
        rw [hqa] at hna
        cases x <;> first | (simp [AV.isAgg] at hna; done) | (simp [AV.cells] at hx0; done)
      | cons k ks =>
        rw [hkk] at hv
        cases hcs : vx.cells.toList with
        | nil => rw [hcs] at hv; simp [vEq] at hv
        | cons u us =>
          rw [hcs] at hv e1
          simp only [vEq] at hv
          split at hv
          · cases hv
          · rename_i b eb
            split at hv
            · cases hv
            · rename_i c ec
              simp only [Option.some.injEq, Bool.and_eq_true] at hv
              obtain ⟨rfl, rfl⟩ := hv
              have := (vEq1_same eb).2 10000
              rw [e1]
              simpa [packV] using this
  · cases h

/-- Where a key stands. -/
def keyAt (q : EQ) (i : AV) : List (AV × AV) → Option (Option Nat)
  | [] => some none
  | (x, _) :: es => match AV.eqv q i x with
    | none => none
    | some true => some (some 0)
    | some false => match keyAt q i es with
      | none => none
      | some none => some none
      | some (some n) => some (some (n + 1))

theorem findKey_at {q : EQ} {i : AV} : ∀ {es : List (AV × AV)} {r : Option AV}, findKey q i es = some r → ∃ n, keyAt q i es = some n ∧ r = n.bind fun n => (es[n]?).map (·.2) := by
  intro es
  induction es with
  | nil => intro r h; simp only [findKey, Option.some.injEq] at h; subst h; exact ⟨none, rfl, rfl⟩
  | cons e es ih =>
    intro r h
    obtain ⟨x, v⟩ := e
    simp only [findKey] at h
    split at h
    · cases h
    · rename_i e1
      simp only [Option.some.injEq] at h; subst h
      exact ⟨some 0, by simp [keyAt, e1], rfl⟩
    · rename_i e1
      obtain ⟨n, h1, h2⟩ := ih h
      cases n with
      | none => exact ⟨none, by simp [keyAt, e1, h1], h2⟩
      | some n => exact ⟨some (n + 1), by simp [keyAt, e1, h1], by simpa using h2⟩

theorem putKey_at {q : EQ} {i v : AV} : ∀ {es es' : List (AV × AV)}, putKey q i v es = some es' → ∃ n, keyAt q i es = some n ∧ es' = match n with | none => es ++ [(i, v)] | some n => es.set n (i, v) := by
  intro es
  induction es with
  | nil => intro es' h; simp only [putKey, Option.some.injEq] at h; subst h; exact ⟨none, rfl, rfl⟩
  | cons e es ih =>
    intro es' h
    obtain ⟨x, u⟩ := e
    simp only [putKey] at h
    split at h
    · cases h
    · rename_i e1
      simp only [Option.some.injEq] at h; subst h
      exact ⟨some 0, by simp [keyAt, e1], rfl⟩
    · rename_i e1
      split at h
      · cases h
      · rename_i es2 h2
        simp only [Option.some.injEq] at h; subst h
        obtain ⟨n, h1, h3⟩ := ih h2
        cases n with
        | none => exact ⟨none, by simp [keyAt, e1, h1], by simp only at h3; rw [h3]; rfl⟩
        | some n => exact ⟨some (n + 1), by simp [keyAt, e1, h1], by simp only at h3; rw [h3]; rfl⟩

theorem keyAt_eqv {q : EQ} {i : AV} : ∀ {es : List (AV × AV)} {n : Nat}, keyAt q i es = some (some n) → ∃ e, es[n]? = some e ∧ AV.eqv q i e.1 = some true := by
  intro es
  induction es with
  | nil => intro n h; cases h
  | cons e es ih =>
    intro n h
    obtain ⟨x, v⟩ := e
    simp only [keyAt] at h
    split at h
    · cases h
    · rename_i e1
      simp only [Option.some.injEq] at h; subst h
      exact ⟨_, rfl, e1⟩
    · split at h
      · cases h
      · cases h
      · rename_i m h1
        simp only [Option.some.injEq] at h; subst h
        obtain ⟨e, h2, h3⟩ := ih h1
        exact ⟨e, by simpa using h2, h3⟩

/-- Entries that stand for entries. -/
def ER (s : Sim) (es : List (AV × AV)) (ms : List MapEntry) : Prop := ms.length = es.length ∧ ∀ (i : Nat) (e : AV × AV) (m : MapEntry), es[i]? = some e → ms[i]? = some m → VR s e.1 m.key ∧ VR s e.2 m.val

theorem ER.tail {e : AV × AV} {es : List (AV × AV)} {m : MapEntry} {ms : List MapEntry} (h : ER s (e :: es) (m :: ms)) : (VR s e.1 m.key ∧ VR s e.2 m.val) ∧ ER s es ms :=
  ⟨h.2 0 e m rfl rfl, by simpa using h.1, fun i e m he hm => h.2 (i + 1) e m (by simpa using he) (by simpa using hm)⟩

theorem findAsking_run {t : TypeId} {q : EQ} {i : AV} {vi : Value} (hq : okEQ P t q = true) (hi : VR s i vi) : ∀ {es : List (AV × AV)} {ms : List MapEntry} {n : Option Nat} (k : Nat), ER s es ms → keyAt q i es = some n →
    (Instr.findAsking t vi ms k).run P w = .ok (n.bind fun n => (ms[n]?).map fun m => (k + n, m.val)) w := by
  intro es
  induction es with
  | nil =>
    intro ms n k h hk
    simp only [keyAt, Option.some.injEq] at hk; subst hk
    have : ms = [] := List.eq_nil_of_length_eq_zero (by simpa using h.1)
    subst this
    simp [Instr.findAsking]
  | cons e es ih =>
    intro ms n k h hk
    cases ms with
    | nil => have := h.1; simp at this
    | cons m ms =>
      obtain ⟨x, v⟩ := e
      obtain ⟨⟨h1, h2⟩, h3⟩ := h.tail
      simp only [keyAt] at hk
      split at hk
      · cases hk
      · rename_i e1
        simp only [Option.some.injEq] at hk; subst hk
        have := eqv_run (P := P) (w := w) hq hi h1 e1
        simp only [Instr.findAsking, Op.equal, Op.maxDepth, Sem.run_bind, this, Result.andThen_ok, if_true, Sem.run_pure]
        simp
      · rename_i e1
        have := eqv_run (P := P) (w := w) hq hi h1 e1
        split at hk
        · cases hk
        · rename_i h4
          simp only [Option.some.injEq] at hk; subst hk
          have h5 := ih (k + 1) h3 h4
          simp only [Instr.findAsking, Op.equal, Op.maxDepth, Sem.run_bind, this, Result.andThen_ok, Bool.false_eq_true, if_false]
          exact h5
        · rename_i m' h4
          simp only [Option.some.injEq] at hk; subst hk
          have h5 := ih (k + 1) h3 h4
          simp only [Instr.findAsking, Op.equal, Op.maxDepth, Sem.run_bind, this, Result.andThen_ok, Bool.false_eq_true, if_false]
          rw [h5]
          simp only [Option.bind_some, List.getElem?_cons_succ]
          congr 2
          funext m
          rw [Nat.add_assoc, Nat.add_comm 1]

theorem sameNow_vEq1 {kind : TypeDesc} {k : EK} {x y : Value} {r : Bool} (hk : (kind = .bool ∧ k = .b) ∨ ((∃ j, kind = .int j) ∧ k = .i) ∨ (kind = .string ∧ k = .s)) (h : vEq1 k x y = some r) : Instr.sameNow kind x y = some r := by
  rcases hk with ⟨rfl, rfl⟩ | ⟨⟨j, rfl⟩, rfl⟩ | ⟨rfl, rfl⟩
  · cases x <;> cases y <;> simp only [vEq1] at h <;> first | (cases h; done) | exact h
  · cases x <;> cases y <;> simp only [vEq1] at h <;> first | (cases h; done) | exact h
  · cases x <;> cases y <;> simp only [vEq1] at h <;> first | (cases h; done) | skip
    simp only [Instr.sameNow]
    rw [beq_toListBytes]; exact h

theorem sameNow_eq {t : TypeId} {kind : TypeDesc} (hkind : P.underlying t = some kind) (x y : Value) {b c : Bool} (he : (Op.equalIn 10000 t x y).run P w = .ok b w) (hc : Instr.sameNow kind x y = some c) : c = b := by
  cases kind with
  | int kk =>
    cases x <;> cases y <;> simp only [Instr.sameNow] at hc <;> first | (cases hc; done) | skip
    rename_i k a k' a'
    split at hc
    · rename_i e3
      subst e3
      simp only [Option.some.injEq] at hc
      have he2 : (Op.equalIn 10000 t (.int k a) (.int k a')).run P w = .ok (a == a') w := run_equalIn_int w 9999 t k _ a a' hkind
      rw [he2] at he
      simp only [Result.ok.injEq, and_true] at he
      rw [← hc]; exact he
    · cases hc
  | string =>
    cases x <;> cases y <;> simp only [Instr.sameNow] at hc <;> first | (cases hc; done) | skip
    rename_i a a'
    simp only [Option.some.injEq] at hc
    have he2 : (Op.equalIn 10000 t (.string a) (.string a')).run P w = .ok (a.toList == a'.toList) w := run_equalIn_string w 9999 t a a' hkind
    rw [he2] at he
    simp only [Result.ok.injEq, and_true] at he
    rw [← hc, ← he, beq_toListBytes]
  | bool =>
    cases x <;> cases y <;> simp only [Instr.sameNow] at hc <;> first | (cases hc; done) | skip
    rename_i a a'
    simp only [Option.some.injEq] at hc
    have he2 : (Op.equalIn 10000 t (.bool a) (.bool a')).run P w = .ok (a == a') w := run_equalIn_bool' w 9999 t a a' hkind
    rw [he2] at he
    simp only [Result.ok.injEq, and_true] at he
    rw [← hc]; exact he
  | _ => cases x <;> cases y <;> simp only [Instr.sameNow] at hc <;> cases hc

theorem findKey_run {t : TypeId} {q : EQ} {i : AV} {vi : Value} {es : List (AV × AV)} {ms : List MapEntry} {n : Option Nat} (hq : okEQ P t q = true) (hi : VR s i vi) (h : ER s es ms) (hk : keyAt q i es = some n) :
    (Instr.findKey t vi ms).run P w = .ok (n.bind fun n => (ms[n]?).map fun m => (n, m.val)) w := by
  have hask := findAsking_run (P := P) (w := w) hq hi 0 h hk
  simp only [Nat.zero_add] at hask
  have hq' := hq
  simp only [okEQ, Bool.and_eq_true, decide_eq_true_eq] at hq'
  -- whatever is found now is what is found by asking
  have now : ∀ (kind : TypeDesc), P.underlying t = some kind → ∀ {es : List (AV × AV)} {ms : List MapEntry} {n : Option Nat} (k : Nat) {r}, ER s es ms → keyAt q i es = some n → Instr.findNow kind vi ms k = some r → r = n.bind fun n => (ms[n]?).map fun m => (k + n, m.val) := by
    intro kind hkind es
    induction es with
    | nil =>
      intro ms n k r h hk hr
      simp only [keyAt, Option.some.injEq] at hk; subst hk
      have : ms = [] := List.eq_nil_of_length_eq_zero (by simpa using h.1)
      subst this
      simp only [Instr.findNow, Option.some.injEq] at hr
      exact hr.symm
    | cons e es ih =>
      intro ms n k r h hk hr
      cases ms with
      | nil => have := h.1; simp at this
      | cons m ms =>
        obtain ⟨x, v⟩ := e
        obtain ⟨⟨h1, h2⟩, h3⟩ := h.tail
        have key : ∀ b, AV.eqv q i x = some b → ∀ c, Instr.sameNow kind vi m.key = some c → c = b := by
          intro b hb c hc
          have he := eqv_run (P := P) (w := w) hq hi h1 hb
          exact sameNow_eq hkind _ _ he hc
        simp only [Instr.findNow] at hr
        simp only [keyAt] at hk
        split at hr
        · rename_i hs
          simp only [Option.some.injEq] at hr; subst hr
          split at hk
          · cases hk
          · simp only [Option.some.injEq] at hk; subst hk; simp
          · rename_i e1
            exact absurd (key false e1 true hs) (by decide)
        · rename_i hs
          split at hk
          · cases hk
          · rename_i e1
            exact absurd (key true e1 false hs) (by decide)
          · split at hk
            · cases hk
            · rename_i h4
              simp only [Option.some.injEq] at hk; subst hk
              exact ih (k + 1) h3 h4 hr
            · rename_i m' h4
              simp only [Option.some.injEq] at hk; subst hk
              have := ih (k + 1) h3 h4 hr
              rw [this]
              simp only [Option.bind_some, List.getElem?_cons_succ]
              congr 1
              funext m
              rw [Nat.add_assoc, Nat.add_comm 1]
        · cases hr
  obtain ⟨g, hg⟩ : ∃ kind, P.underlying t = some kind := by
    have := hq'.2
    unfold aggOf at this
    cases hu : P.underlying t with
    | none => rw [hu] at this; cases this
    | some k => exact ⟨k, rfl⟩
  simp only [Instr.findKey, Sem.run_bind, run_underlying hg, Result.andThen_ok]
  cases hn : Instr.findNow g vi ms 0 with
  | none => exact hask
  | some r =>
    have := now g hg 0 h hk hn
    simp only [Nat.zero_add] at this
    rw [this]
    rfl

end
end Go.Am
