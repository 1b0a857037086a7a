/- An abstract machine for the part of Go that this program uses: the runs of maps. -/
import Derived.Test.YtjkpoaijmbapiaaGreatDoorAmOps7
import GoSem.Builtin.Clear
namespace Go.Am
set_option linter.all false
open Go Go.RowKit

section
variable {P : Program} {w0 : Base} {w : World} {s : Sim} {M : Mem}

/-- Keys that are compared cell by cell may be keys. -/
theorem checkKey_run (empty : Bool) : ∀ (d : Nat),
    (∀ (d' : Nat) (t : TypeId) (ks : List EK) (g : Bool) (xs : List Value), d ≤ d' → eqShape P d t = some ks → aggOf P t = some g → xs.length = ks.length → (Instr.checkKey empty d' t (packV g xs)).run P w = .ok () w) ∧
    (∀ (d' : Nat) (fs : List Field) (off : Nat) (ks : List EK) (xs : List Value), d ≤ d' → eqShapeFields P d fs off = some ks → off + ks.length ≤ xs.length →
      (forIn fs PUnit.unit fun f (_ : PUnit) => (if f.name ≠ "_" then do
          let a ← part f.type xs.toArray f.offset
          Instr.checkKey empty d' f.type a
          pure (ForInStep.yield PUnit.unit)
        else pure (ForInStep.yield PUnit.unit) : Sem (ForInStep PUnit))).run P w = .ok PUnit.unit w) := by
  intro d
  induction d with
  | zero =>
    refine ⟨fun d' t ks g xs _ h => by simp [eqShape] at h, fun d' fs off ks xs _ h _ => ?_⟩
    cases fs with
    | nil => simp
    | cons f fs => simp [eqShapeFields] at h
  | succ d ih =>
    obtain ⟨ih1, ih2⟩ := ih
    refine ⟨fun d' t ks g xs hd h hg hl => ?_, fun d' fs off ks xs hd h hl => ?_⟩
    · obtain ⟨d', rfl⟩ : ∃ q, d' = q + 1 := ⟨d' - 1, by omega⟩
      have hd1 : d ≤ d' := by omega
      rw [eqShape] at h
      split at h
      · rename_i hu; simp [Instr.checkKey, run_underlying hu]
      · rename_i k hu; simp [Instr.checkKey, run_underlying hu]
      · rename_i hu; simp [Instr.checkKey, run_underlying hu]
      · rename_i fs hu
        split at h
        · split at h
          · rename_i ks' hf
            split at h
            · simp only [Option.some.injEq] at h; subst h
              have : g = true := by simpa [aggOf, hu] using hg.symm
              subst this
              have := ih2 d' fs.toList 0 ks' xs hd1 hf (by omega)
              simp only [packV, if_true, Instr.checkKey, Sem.run_bind, run_underlying hu, Result.andThen_ok]
              rw [← Array.forIn_toList]
              simp only [ne_eq, Sem.run_bind] at this ⊢
              rw [this]
              rfl
            · cases h
          · cases h
        · cases h
      · rename_i n e hu
        split at h
        · rename_i ks' hf
          split at h
          · rename_i hs
            simp only [Option.some.injEq] at h; subst h
            have : g = true := by simpa [aggOf, hu] using hg.symm
            subst this
            obtain ⟨ge, hge, hse, h1⟩ := eqShape_agg hf
            simp only [List.length_flatten, List.map_replicate, List.sum_replicate_nat] at hl
            have key : ∀ (m i : Nat), (i + m) * ks'.length ≤ xs.length →
                ((forIn (List.range' i m 1) PUnit.unit fun i (_ : PUnit) => do
                    let n ← sizeOf e
                    let a ← part e xs.toArray (i * n)
                    Instr.checkKey empty d' e a
                    pure (ForInStep.yield PUnit.unit) : Sem PUnit).run P w = .ok PUnit.unit w) := by
              intro m
              induction m with
              | zero => intro i _; simp
              | succ m ihm =>
                intro i hb
                have e1 : (i + (m + 1)) * ks'.length = i * ks'.length + (m * ks'.length + ks'.length) := by
                  rw [Nat.add_mul, Nat.add_mul, Nat.one_mul]
                have hx := part_packV (P := P) (w := w) (off := i * ks'.length) (cs := xs) hge hse h1 (by omega)
                have hc := ih1 d' e ks' ge ((xs.drop (i * ks'.length)).take ks'.length) hd1 hf hge (by simp; omega)
                rw [List.range'_succ]
                simp only [List.forIn_cons, Sem.run_bind, run_sizeOf hse, hx, hc, Result.andThen_ok, Sem.run_pure]
                exact ihm (i + 1) (by
                  have e2 : (i + 1 + m) = i + (m + 1) := by omega
                  rw [e2]; exact hb)
            have hk := key n 0 (by simpa using Nat.le_of_eq hl.symm)
            simp only [packV, if_true, Instr.checkKey, Sem.run_bind, run_underlying hu, Result.andThen_ok]
            rw [Std.Legacy.Range.forIn_eq_forIn_range']
            simp only [Std.Legacy.Range.size, Nat.sub_zero, Nat.add_sub_cancel, Nat.div_one]
            rw [hk]
            rfl
          · cases h
        · cases h
      · cases h
    · cases fs with
      | nil => simp
      | cons f fs =>
        simp only [eqShapeFields] at h
        split at h
        · rename_i hc
          obtain ⟨hname, rfl⟩ := hc
          split at h
          · rename_i ks' hf
            split at h
            · rename_i hsz
              split at h
              · rename_i rs hr
                simp only [Option.some.injEq] at h; subst h
                simp only [List.length_append] at hl
                obtain ⟨ge, hge, hse, h1⟩ := eqShape_agg hf
                have hx := part_packV (P := P) (w := w) (off := f.offset) (cs := xs) hge hse h1 (by omega)
                have hck := ih1 d' f.type ks' ge ((xs.drop f.offset).take ks'.length) (by omega) hf hge (by simp; omega)
                have hrest := ih2 d' fs (f.offset + ks'.length) rs xs (by omega) hr (by omega)
                simp only [List.forIn_cons, Sem.run_bind, hname, ne_eq, not_false_eq_true, if_true, hx, hck, Result.andThen_ok, Sem.run_pure]
                exact hrest
              · cases h
            · cases h
          · cases h
        · cases h

theorem eqv_key {t : TypeId} {q : EQ} {x : AV} {vx : Value} (empty : Bool) (hq : okEQ P t q = true) (hx : VR s x vx) (hl : x.cells.length = q.ks.length) (hg : x.isAgg = q.ag) : (Instr.checkKey empty 10000 t vx).run P w = .ok () w := by
  simp only [okEQ, Bool.and_eq_true, decide_eq_true_eq] at hq
  have h1 := hx.cells.1
  have := (checkKey_run (P := P) (w := w) empty 20).1 10000 t q.ks q.ag vx.cells.toList (by omega) hq.1 hq.2 (by simp; omega)
  rwa [← hg, ← hx.packV] at this

theorem vEq1_same {k : EK} {x y : Value} (h : vEq1 k x y = some true) : x = y ∧ ∀ n, Instr.sameBits n x y = true := by
  unfold vEq1 at h
  split at h
  · simp at h; subst h; exact ⟨rfl, fun n => by simp [Instr.sameBits]⟩
  · split at h
    · rename_i e; subst e; simp at h; subst h; exact ⟨rfl, fun n => by simp [Instr.sameBits]⟩
    · cases h
  · rename_i a b
    simp only [Option.some.injEq] at h
    have h1 : a.toList = b.toList := by simpa using h
    have : a = b := by
      rw [ByteArray.toList_eq, ByteArray.toList_eq] at h1
      cases a; cases b
      simp only [ByteArray.mk.injEq]
      exact Array.toList_inj.1 h1
    subst this
    exact ⟨rfl, fun n => by simp only [Instr.sameBits]; rw [beq_toListBytes]; simp⟩
  · cases h

theorem vEq_same : ∀ {ks : List EK} {xs ys : List Value}, vEq ks xs ys = some true → xs = ys ∧ ∀ n, ((xs.zip ys).all fun (x, y) => Instr.sameBits n x y) = true := by
  intro ks
  induction ks with
  | nil => intro xs ys h; cases xs <;> cases ys <;> simp_all [vEq]
  | cons k ks ih =>
    intro xs ys h
    cases xs <;> cases ys <;> simp only [vEq] at h
    · cases h
    · cases h
    · cases h
    · split at h
      · cases h
      · rename_i b e1
        split at h
        · cases h
        · rename_i c e2
          simp only [Option.some.injEq, Bool.and_eq_true] at h
          obtain ⟨rfl, rfl⟩ := h
          obtain ⟨rfl, h1⟩ := vEq1_same e1
          obtain ⟨rfl, h2⟩ := ih e2
          exact ⟨rfl, fun n => by simpa [h1 n] using h2 n⟩

theorem sameBits_agg (n : Nat) (xs : List Value) (h : ((xs.zip xs).all fun (x, y) => Instr.sameBits n x y) = true) : Instr.sameBits (n + 1) (.agg xs.toArray) (.agg xs.toArray) = true := by
  simp only [Instr.sameBits, beq_self_eq_true, Bool.true_and]
  exact h

theorem eqv_same {q : EQ} {x y : AV} {vx vy : Value} (hx : VR s x vx) (hy : VR s y vy) (h : AV.eqv q x y = some true) : vx = vy ∧ Instr.sameBits 10000 vx vy = true := by
  unfold AV.eqv at h
  split at h
  · rename_i hc
    have h1 := hx.cells
    have h2 := hy.cells
    have hv := eqCells_vEq (s := s) (vx := vx.cells.toList) (vy := vy.cells.toList) (by simpa using h1.1) (by simpa using h2.1) (fun i x v hx hv => h1.2 i x v hx (by simpa using hv)) (fun i x v hx hv => h2.2 i x v hx (by simpa using hv)) h
    obtain ⟨h3, h4⟩ := vEq_same hv
    have e1 := hx.packV
    have e2 := hy.packV
    rw [hc.1] at e1
    rw [hc.2] at e2
    have e3 : vx = vy := by rw [e1, e2, h3]
    refine ⟨e3, ?_⟩
    subst e3
    cases hqa : q.ag with
    | true =>
      rw [hqa] at e1
      rw [e1]
      exact sameBits_agg 9999 vx.cells.toList (h4 9999)
    | false =>
      rw [hqa] at e1
      cases hkk : q.ks with
      | nil =>
        rw [hkk] at hv
        have := (vEq_len hv).1
        have hx0 : x.cells.length = 0 := by rw [h1.1]; simpa using this
        exfalso
        have hna := hc.1
        rw [hqa] at hna
        cases x <;> first | (simp [AV.isAgg] at hna; done) | (simp [AV.cells] at hx0; done)
      | cons k ks =>
        rw [hkk] at hv
        cases hcs : vx.cells.toList with
        | nil => rw [hcs] at hv; simp [vEq] at hv
        | cons u us =>
          rw [hcs] at hv e1
          simp only [vEq] at hv
          split at hv
          · cases hv
          · rename_i b eb
            split at hv
            · cases hv
            · rename_i c ec
              simp only [Option.some.injEq, Bool.and_eq_true] at hv
              obtain ⟨rfl, rfl⟩ := hv
              have := (vEq1_same eb).2 10000
              rw [e1]
              simpa [packV] using this
  · cases h

/-- Where a key stands. -/
def keyAt (q : EQ) (i : AV) : List (AV × AV) → Option (Option Nat)
  | [] => some none
  | (x, _) :: es => match AV.eqv q i x with
    | none => none
    | some true => some (some 0)
    | some false => match keyAt q i es with
      | none => none
      | some none => some none
      | some (some n) => some (some (n + 1))

theorem findKey_at {q : EQ} {i : AV} : ∀ {es : List (AV × AV)} {r : Option AV}, findKey q i es = some r → ∃ n, keyAt q i es = some n ∧ r = n.bind fun n => (es[n]?).map (·.2) := by
  intro es
  induction es with
  | nil => intro r h; simp only [findKey, Option.some.injEq] at h; subst h; exact ⟨none, rfl, rfl⟩
  | cons e es ih =>
    intro r h
    obtain ⟨x, v⟩ := e
    simp only [findKey] at h
    split at h
    · cases h
    · rename_i e1
      simp only [Option.some.injEq] at h; subst h
      exact ⟨some 0, by simp [keyAt, e1], rfl⟩
    · rename_i e1
      obtain ⟨n, h1, h2⟩ := ih h
      cases n with
      | none => exact ⟨none, by simp [keyAt, e1, h1], h2⟩
      | some n => exact ⟨some (n + 1), by simp [keyAt, e1, h1], by simpa using h2⟩

theorem putKey_at {q : EQ} {i v : AV} : ∀ {es es' : List (AV × AV)}, putKey q i v es = some es' → ∃ n, keyAt q i es = some n ∧ es' = match n with | none => es ++ [(i, v)] | some n => es.set n (i, v) := by
  intro es
  induction es with
  | nil => intro es' h; simp only [putKey, Option.some.injEq] at h; subst h; exact ⟨none, rfl, rfl⟩
  | cons e es ih =>
    intro es' h
    obtain ⟨x, u⟩ := e
    simp only [putKey] at h
    split at h
    · cases h
    · rename_i e1
      simp only [Option.some.injEq] at h; subst h
      exact ⟨some 0, by simp [keyAt, e1], rfl⟩
    · rename_i e1
      split at h
      · cases h
      · rename_i es2 h2
        simp only [Option.some.injEq] at h; subst h
        obtain ⟨n, h1, h3⟩ := ih h2
        cases n with
        | none => exact ⟨none, by simp [keyAt, e1, h1], by simp only at h3; rw [h3]; rfl⟩
        | some n => exact ⟨some (n + 1), by simp [keyAt, e1, h1], by simp only at h3; rw [h3]; rfl⟩

theorem keyAt_eqv {q : EQ} {i : AV} : ∀ {es : List (AV × AV)} {n : Nat}, keyAt q i es = some (some n) → ∃ e, es[n]? = some e ∧ AV.eqv q i e.1 = some true := by
  intro es
  induction es with
  | nil => intro n h; cases h
  | cons e es ih =>
    intro n h
    obtain ⟨x, v⟩ := e
    simp only [keyAt] at h
    split at h
    · cases h
    · rename_i e1
      simp only [Option.some.injEq] at h; subst h
      exact ⟨_, rfl, e1⟩
    · split at h
      · cases h
      · cases h
      · rename_i m h1
        simp only [Option.some.injEq] at h; subst h
        obtain ⟨e, h2, h3⟩ := ih h1
        exact ⟨e, by simpa using h2, h3⟩

/-- Entries that stand for entries. -/
def ER (s : Sim) (es : List (AV × AV)) (ms : List MapEntry) : Prop := ms.length = es.length ∧ ∀ (i : Nat) (e : AV × AV) (m : MapEntry), es[i]? = some e → ms[i]? = some m → VR s e.1 m.key ∧ VR s e.2 m.val

theorem ER.tail {e : AV × AV} {es : List (AV × AV)} {m : MapEntry} {ms : List MapEntry} (h : ER s (e :: es) (m :: ms)) : (VR s e.1 m.key ∧ VR s e.2 m.val) ∧ ER s es ms :=
  ⟨h.2 0 e m rfl rfl, by simpa using h.1, fun i e m he hm => h.2 (i + 1) e m (by simpa using he) (by simpa using hm)⟩

theorem findAsking_run {t : TypeId} {q : EQ} {i : AV} {vi : Value} (hq : okEQ P t q = true) (hi : VR s i vi) : ∀ {es : List (AV × AV)} {ms : List MapEntry} {n : Option Nat} (k : Nat), ER s es ms → keyAt q i es = some n →
    (Instr.findAsking t vi ms k).run P w = .ok (n.bind fun n => (ms[n]?).map fun m => (k + n, m.val)) w := by
  intro es
  induction es with
  | nil =>
    intro ms n k h hk
    simp only [keyAt, Option.some.injEq] at hk; subst hk
    have : ms = [] := List.eq_nil_of_length_eq_zero (by simpa using h.1)
    subst this
    simp [Instr.findAsking]
  | cons e es ih =>
    intro ms n k h hk
    cases ms with
    | nil => have := h.1; simp at this
    | cons m ms =>
      obtain ⟨x, v⟩ := e
      obtain ⟨⟨h1, h2⟩, h3⟩ := h.tail
      simp only [keyAt] at hk
      split at hk
      · cases hk
      · rename_i e1
        simp only [Option.some.injEq] at hk; subst hk
        have := eqv_run (P := P) (w := w) hq hi h1 e1
        simp only [Instr.findAsking, Op.equal, Op.maxDepth, Sem.run_bind, this, Result.andThen_ok, if_true, Sem.run_pure]
        simp
      · rename_i e1
        have := eqv_run (P := P) (w := w) hq hi h1 e1
        split at hk
        · cases hk
        · rename_i h4
          simp only [Option.some.injEq] at hk; subst hk
          have h5 := ih (k + 1) h3 h4
          simp only [Instr.findAsking, Op.equal, Op.maxDepth, Sem.run_bind, this, Result.andThen_ok, Bool.false_eq_true, if_false]
          exact h5
        · rename_i m' h4
          simp only [Option.some.injEq] at hk; subst hk
          have h5 := ih (k + 1) h3 h4
          simp only [Instr.findAsking, Op.equal, Op.maxDepth, Sem.run_bind, this, Result.andThen_ok, Bool.false_eq_true, if_false]
          rw [h5]
          simp only [Option.bind_some, List.getElem?_cons_succ]
          congr 2
          funext m
          rw [Nat.add_assoc, Nat.add_comm 1]

theorem sameNow_eq {t : TypeId} {kind : TypeDesc} (hkind : P.underlying t = some kind) (x y : Value) {b c : Bool} (he : (Op.equalIn 10000 t x y).run P w = .ok b w) (hc : Instr.sameNow kind x y = some c) : c = b := by
  cases kind with
  | int kk =>
    cases x <;> cases y <;> simp only [Instr.sameNow] at hc <;> first | (cases hc; done) | skip
    rename_i k a k' a'
    split at hc
    · rename_i e3
      subst e3
      simp only [Option.some.injEq] at hc
      have he2 : (Op.equalIn 10000 t (.int k a) (.int k a')).run P w = .ok (a == a') w := run_equalIn_int w 9999 t k _ a a' hkind
      rw [he2] at he
      simp only [Result.ok.injEq, and_true] at he
      rw [← hc]; exact he
    · cases hc
  | string =>
    cases x <;> cases y <;> simp only [Instr.sameNow] at hc <;> first | (cases hc; done) | skip
    rename_i a a'
    simp only [Option.some.injEq] at hc
    have he2 : (Op.equalIn 10000 t (.string a) (.string a')).run P w = .ok (a.toList == a'.toList) w := run_equalIn_string w 9999 t a a' hkind
    rw [he2] at he
    simp only [Result.ok.injEq, and_true] at he
    rw [← hc, ← he, beq_toListBytes]
  | bool =>
    cases x <;> cases y <;> simp only [Instr.sameNow] at hc <;> first | (cases hc; done) | skip
    rename_i a a'
    simp only [Option.some.injEq] at hc
    have he2 : (Op.equalIn 10000 t (.bool a) (.bool a')).run P w = .ok (a == a') w := run_equalIn_bool' w 9999 t a a' hkind
    rw [he2] at he
    simp only [Result.ok.injEq, and_true] at he
    rw [← hc]; exact he
  | _ => cases x <;> cases y <;> simp only [Instr.sameNow] at hc <;> cases hc

theorem findKey_run {t : TypeId} {q : EQ} {i : AV} {vi : Value} {es : List (AV × AV)} {ms : List MapEntry} {n : Option Nat} (hq : okEQ P t q = true) (hi : VR s i vi) (h : ER s es ms) (hk : keyAt q i es = some n) :
    (Instr.findKey t vi ms).run P w = .ok (n.bind fun n => (ms[n]?).map fun m => (n, m.val)) w := by
  have hask := findAsking_run (P := P) (w := w) hq hi 0 h hk
  simp only [Nat.zero_add] at hask
  have hq' := hq
  simp only [okEQ, Bool.and_eq_true, decide_eq_true_eq] at hq'
  -- whatever is found now is what is found by asking
  have now : ∀ (kind : TypeDesc), P.underlying t = some kind → ∀ {es : List (AV × AV)} {ms : List MapEntry} {n : Option Nat} (k : Nat) {r}, ER s es ms → keyAt q i es = some n → Instr.findNow kind vi ms k = some r → r = n.bind fun n => (ms[n]?).map fun m => (k + n, m.val) := by
    intro kind hkind es
    induction es with
    | nil =>
      intro ms n k r h hk hr
      simp only [keyAt, Option.some.injEq] at hk; subst hk
      have : ms = [] := List.eq_nil_of_length_eq_zero (by simpa using h.1)
      subst this
      simp only [Instr.findNow, Option.some.injEq] at hr
      exact hr.symm
    | cons e es ih =>
      intro ms n k r h hk hr
      cases ms with
      | nil => have := h.1; simp at this
      | cons m ms =>
        obtain ⟨x, v⟩ := e
        obtain ⟨⟨h1, h2⟩, h3⟩ := h.tail
        have key : ∀ b, AV.eqv q i x = some b → ∀ c, Instr.sameNow kind vi m.key = some c → c = b := by
          intro b hb c hc
          have he := eqv_run (P := P) (w := w) hq hi h1 hb
          exact sameNow_eq hkind _ _ he hc
        simp only [Instr.findNow] at hr
        simp only [keyAt] at hk
        split at hr
        · rename_i hs
          simp only [Option.some.injEq] at hr; subst hr
          split at hk
          · cases hk
          · simp only [Option.some.injEq] at hk; subst hk; simp
          · rename_i e1
            exact absurd (key false e1 true hs) (by decide)
        · rename_i hs
          split at hk
          · cases hk
          · rename_i e1
            exact absurd (key true e1 false hs) (by decide)
          · split at hk
            · cases hk
            · rename_i h4
              simp only [Option.some.injEq] at hk; subst hk
              exact ih (k + 1) h3 h4 hr
            · rename_i m' h4
              simp only [Option.some.injEq] at hk; subst hk
              have := ih (k + 1) h3 h4 hr
              rw [this]
              simp only [Option.bind_some, List.getElem?_cons_succ]
              congr 1
              funext m
              rw [Nat.add_assoc, Nat.add_comm 1]
        · cases hr
  obtain ⟨g, hg⟩ : ∃ kind, P.underlying t = some kind := by
    have := hq'.2
    unfold aggOf at this
    cases hu : P.underlying t with
    | none => rw [hu] at this; cases this
    | some k => exact ⟨k, rfl⟩
  simp only [Instr.findKey, Sem.run_bind, run_underlying hg, Result.andThen_ok]
  cases hn : Instr.findNow g vi ms 0 with
  | none => exact hask
  | some r =>
    have := now g hg 0 h hk hn
    simp only [Nat.zero_add] at this
    rw [this]
    rfl

end
end Go.Am
namespace Go.Am
set_option linter.all false
open Go Go.RowKit

section
variable {P : Program} {w0 : Base} {w : World} {s : Sim} {M : Mem}

theorem run_getObj_map {b : Nat} {mes : Array MapEntry} {clock : Nat} (h : w.heap[b]? = some (.map mes clock)) : (getObj b).run P w = .ok (.map mes clock) w := by
  simp [getObj, Sem.run, h]

def okMapT (P : Program) (t : TypeId) (q : EQ) : Bool :=
  match P.underlying t with
  | some (.map key _) => okEQ P key q
  | _ => false

def okMapZ (P : Program) (t : TypeId) (zero : AV) : Bool :=
  match P.underlying t with
  | some (.map _ e) => zeroVal P e zero
  | _ => false

theorem fits_key {t : TypeId} {q : EQ} {x : AV} {vx : Value} (empty : Bool) (hq : okEQ P t q = true) (hx : VR s x vx) (hf : q.fits x = true) : (Instr.checkKey empty 10000 t vx).run P w = .ok () w := by
  simp only [EQ.fits, Bool.and_eq_true, decide_eq_true_eq] at hf
  exact eqv_key empty hq hx hf.2 hf.1

theorem tuple2 {x : AV} {v : Value} {b : Bool} (h : VR s x v) : VR s (.tuple [x, .bool b]) (.tuple #[v, .bool b]) :=
  .tuple [x, .bool b] [v, .bool b] rfl fun i y u hy hu => by
    cases i with
    | zero => simp only [List.getElem?_cons_zero, Option.some.injEq] at hy hu; subst hy; subst hu; exact h
    | succ i =>
      cases i with
      | zero => simp only [List.getElem?_cons_succ, List.getElem?_cons_zero, Option.some.injEq] at hy hu; subst hy; subst hu; exact .bool b
      | succ i => simp at hy

theorem lookup_run (hm : MR w0 s M w) {t : TypeId} {q : EQ} {zero : AV} {ok : Bool} {id : Nat} {i : AV} {xv iv : Value} {es : List (AV × AV)} {n : Option AV} (ht : okMapT P t q = true) (hz : okMapZ P t zero = true) (hx : VR s (.map id) xv) (hi : VR s i iv)
    (hf : q.fits i = true) (hid : M.objs[id]? = some (.map es)) (hk : findKey q i es = some n) :
    ∃ u, (Instr.lookup t xv iv ok).run P w = .ok u w ∧ VR s (match n with | some v => if ok then .tuple [v, .bool true] else v | none => if ok then .tuple [zero, .bool false] else zero) u := by
  unfold okMapT at ht
  split at ht
  · rename_i key e hu
    unfold okMapZ at hz
    rw [hu] at hz
    obtain ⟨z, hz1, hz2⟩ := run_zeroVal (w := w) hz
    obtain ⟨b, mes, clock, h1, h2, h3, h5, h4⟩ := hm.obj id _ hid
    cases hx with
    | map _ b' hl =>
      rw [h1] at hl
      cases hl
      obtain ⟨p, hp1, hp2⟩ := findKey_at hk
      have her : ER s es mes.toList := ⟨by simpa using h3, fun i e m he hm => h4 i e m he (by simpa using hm)⟩
      have hfind := findKey_run (P := P) (w := w) ht hi her hp1
      have hck := fits_key (P := P) (w := w) mes.isEmpty ht hi hf
      have hget := run_getObj_map (P := P) h2
      cases p with
      | none =>
        simp only [Option.bind_none] at hp2 hfind
        subst hp2
        refine ⟨if ok then .tuple #[z, .bool false] else z, ?_, ?_⟩
        · simp only [Instr.lookup, Sem.run_bind, run_underlying hu, Result.andThen_ok, hget, Sem.run_pure, hck, hfind, hz1]
        · cases ok
          · exact okConst_ok hz2
          · exact tuple2 (okConst_ok hz2)
      | some p =>
        obtain ⟨e1, g1, g2⟩ := keyAt_eqv hp1
        have hlt : p < mes.size := by rw [h3]; exact (List.getElem?_eq_some_iff.1 g1).1
        simp only [Option.bind_some, g1, Option.map_some] at hp2
        subst hp2
        have hmp : mes.toList[p]? = some mes[p] := by simp [hlt]
        simp only [Option.bind_some, hmp, Option.map_some] at hfind
        refine ⟨if ok then .tuple #[mes[p].val, .bool true] else mes[p].val, ?_, ?_⟩
        · simp only [Instr.lookup, Sem.run_bind, run_underlying hu, Result.andThen_ok, hget, Sem.run_pure, hck, hfind]
        · have := (h4 p e1 mes[p] g1 (Array.getElem?_eq_getElem hlt)).2
          cases ok
          · exact this
          · exact tuple2 this
  · cases ht

theorem lookup_nil {t : TypeId} {q : EQ} {zero : AV} {ok : Bool} {i : AV} {iv : Value} (ht : okMapT P t q = true) (hz : okMapZ P t zero = true) (hi : VR s i iv) (hf : q.fits i = true) :
    ∃ u, (Instr.lookup t (.map none) iv ok).run P w = .ok u w ∧ VR s (if ok then .tuple [zero, .bool false] else zero) u := by
  unfold okMapT at ht
  split at ht
  · rename_i key e hu
    unfold okMapZ at hz
    rw [hu] at hz
    obtain ⟨z, hz1, hz2⟩ := run_zeroVal (w := w) hz
    have hck := fits_key (P := P) (w := w) (#[] : Array MapEntry).isEmpty ht hi hf
    have hfind := findKey_run (P := P) (w := w) (ms := []) (es := []) (n := none) ht hi ⟨rfl, by simp⟩ rfl
    refine ⟨if ok then .tuple #[z, .bool false] else z, ?_, ?_⟩
    · simp only [Instr.lookup, Sem.run_bind, run_underlying hu, Result.andThen_ok, Sem.run_pure, hck]
      simp only [Option.bind_none] at hfind
      simp only [hfind, Result.andThen_ok, Sem.run_bind, hz1, Sem.run_pure]
    · cases ok
      · exact okConst_ok hz2
      · exact tuple2 (okConst_ok hz2)
  · cases ht

theorem run_setObj_map {b : Nat} {mes mes' : Array MapEntry} {clock clock' : Nat} (h : w.heap[b]? = some (.map mes clock)) : (setObj b (.map mes' clock')).run P w = .ok () { w with heap := w.heap.setIfInBounds b (.map mes' clock') } := by
  simp [setObj, Sem.run, h]

theorem setMap (hm : MR w0 s M w) {id b : Nat} {es es' : List (AV × AV)} {mes mes' : Array MapEntry} {clock clock' : Nat} (hid : M.objs[id]? = some (.map es)) (hl : s.loc id = some (.map b)) (hb : w.heap[b]? = some (.map mes clock))
    (hcl : clock' = mes'.size ∧ ∀ (i : Nat) (m : MapEntry), mes'[i]? = some m → m.born = i)
    (her : ER s es' mes'.toList) : ∃ s', s.le s' ∧ MR w0 s' (M.put id (.map es')) { w with heap := w.heap.setIfInBounds b (.map mes' clock') } := by
  have hlt : b < w.heap.size := (Array.getElem?_eq_some_iff.1 hb).1
  have hB : w0.heap.size ≤ b := hm.own id _ b hl rfl
  have hself : ∀ k, ({ w with heap := w.heap.setIfInBounds b (.map mes' clock') } : World).heap[k]? = if k = b then some (.map mes' clock') else w.heap[k]? := fun k => by
    by_cases e : k = b
    · subst e; simp [hlt]
    · rw [if_neg e]; exact Array.getElem?_setIfInBounds_ne (by omega)
  have hmain := hm.setObj (List.getElem?_eq_some_iff.1 hid).1 (.map es') (.map b) hl rfl { w with heap := w.heap.setIfInBounds b (.map mes' clock') } s.fz (fun _ _ _ h => h) (fun _ _ _ => rfl)
    (fun b' hb' _ => by rw [hself b', if_neg (fun e => hb' (by rw [e]; rfl))])
    ⟨hm.below.os, hm.below.tape, hm.below.output, by simpa using hm.below.size, fun k hk => by rw [hself k, if_neg (by omega)]; exact hm.below.block k hk⟩
    (fun b' hb' => ⟨by cases hb'; exact hB, .inl hb'⟩)
    (fun b' o v hb' hf => by
      cases hb'
      have := (hm.fz b o v hf).1
      simp [World.cell?, hb] at this)
    ⟨b, mes', clock', by simp [Sim.setLoc], by rw [hself b, if_pos rfl], by simpa using her.1, hcl, fun i e m he hm' => by
      have mono : s.le { fz := s.fz, loc := (s.setLoc id (.map b)).loc, defs := s.defs } := ⟨fun _ _ _ h => h, fun i l hl' => ⟨l, by
        simp only [Sim.setLoc]
        split
        · rename_i e; subst e; rw [hl] at hl'; exact hl'
        · exact hl', l.le_refl⟩, fun _ h => h⟩
      obtain ⟨h1, h2⟩ := her.2 i e m he (by simpa using hm')
      exact ⟨h1.mono mono, h2.mono mono⟩⟩ none
  exact ⟨_, hmain.1, MR.put_of hm hmain.2⟩

theorem mapUpdate_run (hm : MR w0 s M w) {t : TypeId} {q : EQ} {id : Nat} {i c : AV} {xv iv cv : Value} {es es' : List (AV × AV)} (ht : okMapT P t q = true) (hx : VR s (.map id) xv) (hi : VR s i iv) (hc : VR s c cv)
    (hf : q.fits i = true) (hid : M.objs[id]? = some (.map es)) (hk : putKey q i c es = some es') :
    ∃ s' w', s.le s' ∧ MR w0 s' (M.put id (.map es')) w' ∧ (Instr.mapUpdate t xv iv cv).run P w = .ok () w' := by
  unfold okMapT at ht
  split at ht
  · rename_i key e hu
    obtain ⟨b, mes, clock, h1, h2, h3, h5, h4⟩ := hm.obj id _ hid
    cases hx with
    | map _ b' hl =>
      have hl' := hl
      rw [h1] at hl
      cases hl
      obtain ⟨p, hp1, hp2⟩ := putKey_at hk
      have her : ER s es mes.toList := ⟨by simpa using h3, fun i e m he hm => h4 i e m he (by simpa using hm)⟩
      have hfind := findKey_run (P := P) (w := w) ht hi her hp1
      have hck := fits_key (P := P) (w := w) false ht hi hf
      have hget := run_getObj_map (P := P) h2
      cases p with
      | none =>
        simp only [Option.bind_none] at hp2 hfind
        subst hp2
        obtain ⟨s', g1, g2⟩ := setMap hm hid hl' h2 (es' := es ++ [(i, c)]) (mes' := mes.push { key := iv, val := cv, born := clock }) (clock' := clock + 1) ⟨by simp [h5.1], fun k m hm' => by
          rw [Array.getElem?_push] at hm'
          split at hm'
          · rename_i e1; simp only [Option.some.injEq] at hm'; subst hm'; rw [e1]; exact h5.1
          · exact h5.2 k m hm'⟩ ⟨by simp [h3], fun k e m he hm' => by
          simp only [Array.toList_push] at hm'
          rw [List.getElem?_append] at he hm'
          simp only [Array.length_toList, h3] at hm'
          split at he
          · rename_i hlt
            rw [if_pos hlt] at hm'
            exact her.2 k e m he hm'
          · rename_i hge
            rw [if_neg hge] at hm'
            have hk0 : k - es.length = 0 := by
              have := (List.getElem?_eq_some_iff.1 he).1
              simp at this; omega
            rw [hk0] at he hm'
            simp only [List.getElem?_cons_zero, Option.some.injEq] at he hm'
            subst he; subst hm'
            exact ⟨hi, hc⟩⟩
        refine ⟨s', _, g1, g2, ?_⟩
        simp only [Instr.mapUpdate, Sem.run_bind, run_underlying hu, Result.andThen_ok, hget, hck, hfind]
        exact run_setObj_map h2
      | some p =>
        obtain ⟨e1, k1, k2⟩ := keyAt_eqv hp1
        have hlt : p < mes.size := by rw [h3]; exact (List.getElem?_eq_some_iff.1 k1).1
        simp only at hp2
        subst hp2
        have hmp : mes.toList[p]? = some mes[p] := by simp [hlt]
        simp only [Option.bind_some, hmp, Option.map_some] at hfind
        obtain ⟨q1, q2⟩ := her.2 p e1 mes[p] k1 hmp
        obtain ⟨heq, hsame⟩ := eqv_same hi q1 k2
        have hsame' : Instr.sameBits 10000 mes[p].key iv = true := by rw [← heq] at hsame ⊢; exact hsame
        have hstay : (Instr.keyThatStays ((((mes[p]?).map (·.key)).getD iv)) iv).run P w = .ok iv w := by
          rw [Array.getElem?_eq_getElem hlt]
          simp only [Option.map_some, Option.getD_some, Instr.keyThatStays]
          rw [if_pos hsame']
          rfl
        obtain ⟨s', g1, g2⟩ := setMap hm hid hl' h2 (es' := es.set p (i, c)) (mes' := mes.modify p fun e => { e with key := iv, val := cv }) (clock' := clock) ⟨by simp [h5.1], fun k m hm' => by
          rw [Array.getElem?_modify] at hm'
          split at hm'
          · cases h6 : mes[k]? with
            | none => rw [h6] at hm'; cases hm'
            | some m0 =>
              rw [h6] at hm'
              simp only [Option.map_some, Option.some.injEq] at hm'
              subst hm'
              exact h5.2 k m0 h6
          · exact h5.2 k m hm'⟩ ⟨by simp [h3], fun k e m he hm' => by
          have hm2 : (mes.modify p fun e => { e with key := iv, val := cv })[k]? = some m := by rw [← Array.getElem?_toList]; exact hm'
          rw [Array.getElem?_modify] at hm2
          rcases set_get he with ⟨rfl, rfl⟩ | ⟨hne, he⟩
          · rw [if_pos rfl, Array.getElem?_eq_getElem hlt] at hm2
            simp only [Option.map_some, Option.some.injEq] at hm2
            subst hm2
            exact ⟨hi, hc⟩
          · rw [if_neg (by omega)] at hm2
            exact h4 k e m he hm2⟩
        refine ⟨s', _, g1, g2, ?_⟩
        simp only [Instr.mapUpdate, Sem.run_bind, run_underlying hu, Result.andThen_ok, hget, hck, hfind, hstay]
        exact run_setObj_map h2
  · cases ht

end
end Go.Am
namespace Go.Am
set_option linter.all false
open Go Go.RowKit

def okElemA (P : Program) (t : TypeId) (n k : Nat) : Bool :=
  match P.underlying t with
  | some (.array n' e) => n' == n && okSize P e k
  | _ => false

def okClear (P : Program) (t : TypeId) (k : Nat) (zero : List AV) : Bool :=
  match P.underlying t with
  | some (.slice e) => okSize P e k && okZero P e zero
  | _ => false

section
variable {P : Program} {w0 : Base} {w : World} {s : Sim} {M : Mem}

theorem indexAddrA_run {t : TypeId} {n k : Nat} {x i v : AV} {xv iv : Value} (hk : okElemA P t n k = true) (hx : VR s x xv) (hi : VR s i iv) (h : aIndexAddrA n k x i = some v) :
    ∃ u, (Instr.indexAt t xv iv).run P w = .ok u w ∧ VR s v u := by
  unfold okElemA at hk
  split at hk
  · rename_i n' e he
    simp only [Bool.and_eq_true, beq_iff_eq] at hk
    obtain ⟨rfl, hk⟩ := hk
    obtain ⟨hsz, hk0⟩ := okSize_some hk
    unfold aIndexAddrA at h
    split at h
    · rename_i y ki j
      split at h
      · rename_i hc
        obtain ⟨h0, h1, hle⟩ := hc
        simp only [Option.some.injEq] at h; subst h
        cases hi
        cases hx with
        | cptr _ b o vs hp hf hv =>
          refine ⟨.pointer (some ⟨b, o + j.toNat * k, none⟩), ?_, ?_⟩
          · simp [Instr.indexAt, asIntOf, run_underlying he, h0, h1, run_sizeOf hsz, Addr.add_lit, Instr.sureAddr]
          · have hg : ∀ q c, ((y.cells.drop (j.toNat * k)).take k)[q]? = some c → y.cells[j.toNat * k + q]? = some c := fun q c hc => by
              rw [List.getElem?_take] at hc
              split at hc
              · rwa [List.getElem?_drop] at hc
              · cases hc
            refine .cptr _ b (o + j.toNat * k) (fun q => vs (j.toNat * k + q)) ?_ (fun q c hc => ?_) fun q c hc => hv _ c (hg q c hc)
            · show 0 < ((y.cells.drop (j.toNat * k)).take k).length
              simp only [List.length_take, List.length_drop]; omega
            · rw [Nat.add_assoc]; exact hf _ c (hg q c hc)
      · cases h
    · rename_i id ver off ki j
      split at h
      · rename_i hc
        obtain ⟨h0, h1⟩ := hc
        simp only [Option.some.injEq] at h; subst h
        cases hi
        cases hx with
        | ptr _ _ _ b ver' b' nz hl hv hb =>
          refine ⟨.pointer (some ⟨b, off + j.toNat * k, none⟩), ?_, .ptr _ _ _ b ver' b' nz hl hv hb⟩
          simp [Instr.indexAt, asIntOf, run_underlying he, h0, h1, run_sizeOf hsz, Addr.add_lit, Instr.sureAddr]
      · cases h
    · cases h
  · cases hk

theorem clear_run (hm : MR w0 s M w) {t ty : TypeId} {k : Nat} {zero : List AV} {x : AV} {xv : Value} {M' : Mem} (hok : okClear P t k zero = true) (hx : VR s x xv) (h : aClear M k zero x = some M') :
    ∃ w' s', (Builtin.clear_ #[t] ty #[xv]).run P w = .ok (.tuple #[]) w' ∧ s.le s' ∧ MR w0 s' M' w' := by
  unfold okClear at hok
  split at hok
  · rename_i e he
    simp only [Bool.and_eq_true] at hok
    obtain ⟨hk, hz⟩ := hok
    obtain ⟨hsz, hk0⟩ := okSize_some hk
    obtain ⟨z, hz1, hz2⟩ := run_zeroValue (w := w) hz
    unfold aClear at h
    split at h
    · rename_i id ver off len
      cases hx with
      | ref _ _ _ _ b2 cap ver2 b' nz hl hv hb hcap hzz =>
        split at h
        · rename_i h0
          subst h0
          simp only [Option.some.injEq] at h; subst h
          exact ⟨w, s, by simp [Builtin.clear_, run_underlying he], .refl s, hm⟩
        · rename_i h0
          split at h
          · rename_i ver' cs hid
            split at h
            · rename_i hc
              obtain ⟨rfl, hle, hzl, _⟩ := hc
              simp only [Option.some.injEq] at h; subst h
              obtain ⟨b, c, e0, h1, h2, h3, h4, h5⟩ := hm.obj id _ hid
              have hidl : id < M.objs.length := (List.getElem?_eq_some_iff.1 hid).1
              rw [h1] at hl
              cases hl
              have := hb rfl
              simp only [Option.some.injEq] at this
              subst this
              have hz3 : CR s zero z.cells := by have := CR.of_okConsts (s := s) hz2; simpa using this
              have hcr := hz3.rep len k hzl hk0
              have hzs : z.cells.size = k := by rw [← hz3.len, hzl]
              have hzeq : Builtin.zeroCells z.cells len = (Array.range (len * k)).map (z.cells[· % z.cells.size]!) := by
                unfold Builtin.zeroCells; rw [hzs]
              have hvl : (Builtin.zeroCells z.cells len).toList.length = len * k := by rw [hzeq]; simp
              have hrl : (rep zero len).length = len * k := by rw [length_rep, hzl]
              have hone : ∀ v ∈ (Builtin.zeroCells z.cells len).toList, v.oneCell' = true := fun v hv => by
                rw [one_iff]
                obtain ⟨i, hi⟩ := List.getElem?_of_mem hv
                have hlt := (List.getElem?_eq_some_iff.1 hi).1
                rw [hvl] at hlt
                rw [hzeq] at hi
                exact (hcr.get i _ v (List.getElem?_eq_getElem (by rw [hrl]; exact hlt)) (by rw [← Array.getElem?_toList]; exact hi)).2
              have hst := run_storeCells_at P b off e0 (Builtin.zeroCells z.cells len).toList 0 c w h2 (by rw [hvl]; omega) hone
              simp only [Nat.add_zero] at hst
              have hlen1 : len ≠ 0 := h0
              refine ⟨w.setRow b (c.toList.take off ++ (Builtin.zeroCells z.cells len).toList ++ c.toList.drop (off + (Builtin.zeroCells z.cells len).toList.length)).toArray, { fz := s.fz, loc := (s.setLoc id (.row ver (some b) c.size)).loc, defs := s.defs }, ?_, ?_⟩
              · obtain ⟨l', rfl⟩ : ∃ l', len = l' + 1 := ⟨len - 1, by omega⟩
                simp only [Builtin.clear_, Sem.run_bind, run_underlying he, Result.andThen_ok, hz1, List.getElem?_toArray, List.getElem?_cons_zero]
                rw [hst]
                simp
              · have hB : w0.heap.size ≤ b := hm.own id _ b h1 rfl
                have hsz2 : (c.toList.take off ++ (Builtin.zeroCells z.cells len).toList ++ c.toList.drop (off + (Builtin.zeroCells z.cells len).toList.length)).toArray.size = c.size := by
                  simp only [List.size_toArray, List.length_append, List.length_take, List.length_drop, Array.length_toList]
                  rw [Array.length_toList] at hvl
                  omega
                have mono : s.le { fz := s.fz, loc := (s.setLoc id (.row ver (some b) c.size)).loc, defs := s.defs } := ⟨fun _ _ _ h => h, fun i l hl => ⟨l, by
                  simp only [Sim.setLoc]
                  split
                  · rename_i e; subst e; rw [h1] at hl; exact hl
                  · exact hl, l.le_refl⟩, fun _ h => h⟩
                have hmain := hm.setObj hidl (.row ver (setCells cs off (rep zero len))) (.row ver (some b) c.size) h1 (Loc.le_refl _)
                  (w.setRow b (c.toList.take off ++ (Builtin.zeroCells z.cells len).toList ++ c.toList.drop (off + (Builtin.zeroCells z.cells len).toList.length)).toArray) s.fz (fun _ _ _ h => h) (fun _ _ _ => rfl)
                  (fun b' hb' _ => setRow_other w b b' _ (fun e => hb' (by rw [e]; rfl))) (below_setRow hm.below hB _)
                  (fun b' hb' => ⟨by cases hb'; exact hB, .inl hb'⟩)
                  (fun b' o v hb' hf => by cases hb'; rw [h5 o] at hf; cases hf)
                  ⟨b, _, e0, by rw [hsz2]; simp [Sim.setLoc], setRow_heap w b c _ e0 _ h2, by rw [hsz2, length_setCells (by rw [hrl]; exact hle)]; exact h3, fun i y v hy hv => by
                    rw [setCells_get (by rw [hrl]; exact hle), hrl] at hy
                    have hv' : (c.toList.take off ++ (Builtin.zeroCells z.cells len).toList ++ c.toList.drop (off + (Builtin.zeroCells z.cells len).toList.length))[i]? = some v := by simpa using hv
                    rw [spliced_get (by rw [hvl]; simp; omega), hvl] at hv'
                    split at hy
                    · rename_i hin
                      rw [if_pos hin] at hv'
                      rw [hzeq] at hv'
                      have := hcr.get (i - off) y v hy (by rw [← Array.getElem?_toList]; exact hv')
                      exact ⟨this.1.mono mono, this.2⟩
                    · rename_i hin
                      rw [if_neg hin] at hv'
                      exact ⟨(h4 i y v hy (by simpa using hv')).1.mono mono, (h4 i y v hy (by simpa using hv')).2⟩, h5⟩ none
                exact ⟨hmain.1, hm.put_of hmain.2⟩
            · cases h
          · cases h
    · simp only [Option.some.injEq] at h; subst h
      refine ⟨w, s, ?_, .refl s, hm⟩
      cases hx with
      | nil => simp [Builtin.clear_, run_underlying he]
      | void => simp [Builtin.clear_, run_underlying he]
      | list => simp [Builtin.clear_, run_underlying he]
    · cases h
  · cases hok

end
end Go.Am
