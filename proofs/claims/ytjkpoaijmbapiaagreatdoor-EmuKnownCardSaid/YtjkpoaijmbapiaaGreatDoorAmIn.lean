/- An abstract machine for the part of Go that this program uses: what comes in from a claim's row. -/
import Derived.Test.YtjkpoaijmbapiaaGreatDoorAmCode
import Derived.Test.YtjkpoaijmbapiaaGreatDoorAmEval
import Derived.ChangeArms
import Derived.OpenShut
namespace Go.Am
set_option linter.all false
open Go

/-- All that lies there at first is written by nobody. -/
def fz0 (w : World) (b o : Nat) : Option Value :=
  match w.cell? ⟨b, o, none⟩ with
  | some v => if one v then some v else none
  | none => none
def sim0 (w : World) : Sim := ⟨fz0 w, fun _ => none, fun _ => False⟩

/-- Where a row begins. -/
def base0 (P : Program) (w : World) (tabs : World → Prop := fun _ => True) (ht : ∀ w', RowKit.Below w.heap.size w w' → tabs w' := by intros; trivial) : Base :=
  ⟨w, fun nt code c => okY P nt code c = true, fz0 w, fun _ => none, tabs, ht⟩

theorem fz0_some {w : World} {b o : Nat} {v : Value} : fz0 w b o = some v ↔ w.cell? ⟨b, o, none⟩ = some v ∧ one v = true := by
  unfold fz0
  cases h : w.cell? ⟨b, o, none⟩ with
  | none => simp
  | some u =>
    simp only [Option.some.injEq]
    by_cases hu : one u = true
    · simp only [hu, if_true, Option.some.injEq]
      constructor
      · intro e; subst e; exact ⟨rfl, hu⟩
      · intro e; exact e.1
    · simp only [hu, Bool.false_eq_true, if_false]
      constructor
      · intro e; cases e
      · rintro ⟨rfl, e'⟩; exact absurd e' hu

theorem mr0 (P : Program) (w : World) {tabs : World → Prop} {ht : ∀ w', RowKit.Below w.heap.size w w' → tabs w'} : MR (base0 P w tabs ht) (sim0 w) ⟨[], none⟩ w where
  below := ⟨rfl, rfl, rfl, Nat.le_refl _, fun _ _ => rfl⟩
  fz := fun b o v h => fz0_some.1 h
  dom := fun _ _ => rfl
  obj := fun id o h => by simp at h
  inj := fun i j l l' b h => by cases h
  own := fun i l b h => by cases h
  defs := fun d h => h.elim
  old := fun b o v _ h => h
  held := fun b o h => by cases h

/-- An element of some cells. -/
def elemV : List AV → AV
  | [x] => x
  | xs => .agg xs

/-- What fits a type: the cells. -/
def Fits (P : Program) : Nat → TypeId → List AV → Prop
  | 0, _, _ => False
  | n + 1, t, xs => match P.underlying t with
    | some .bool => ∃ b, xs = [.bool b]
    | some (.int k) => ∃ i, xs = [.int k i] ∧ (Lit.int k i).wf = true
    | some .string => ∃ s : ByteArray, xs = [.str s] ∧ s.size ≤ reachBytes
    | some (.slice e) => ∃ ys : List AV, xs = [.list .shared (P.cellsOf e) ys] ∧ ys.length * P.bytesOf e ≤ reachBytes ∧ ys.length ≤ maxLen ∧ ∀ y, y ∈ ys → ∃ zs, y = elemV zs ∧ zs.length = P.cellsOf e ∧ Fits P n e zs
    | some (.struct fs) => xs.length = P.cellsOf t ∧ 1 < xs.length ∧ ∀ (i : Nat) (f : Field), fs[i]? = some f → Fits P n f.type ((xs.drop f.offset).take (P.cellsOf f.type))
    | some (.array k e) => xs.length = P.cellsOf t ∧ 1 < xs.length ∧ ∀ i, i < k → Fits P n e ((xs.drop (i * P.cellsOf e)).take (P.cellsOf e))
    | _ => False

theorem Fits.bool {P : Program} {n : Nat} {t : TypeId} {xs : List AV} (hu : P.underlying t = some .bool) (h : Fits P n t xs) : ∃ b, xs = [.bool b] := by
  cases n with
  | zero => exact h.elim
  | succ n => unfold Fits at h; rw [hu] at h; exact h
theorem Fits.int {P : Program} {n : Nat} {t : TypeId} {k : IntKind} {xs : List AV} (hu : P.underlying t = some (.int k)) (h : Fits P n t xs) : ∃ i, xs = [.int k i] ∧ (Lit.int k i).wf = true := by
  cases n with
  | zero => exact h.elim
  | succ n => unfold Fits at h; rw [hu] at h; exact h
theorem Fits.str {P : Program} {n : Nat} {t : TypeId} {xs : List AV} (hu : P.underlying t = some .string) (h : Fits P n t xs) : ∃ s : ByteArray, xs = [.str s] ∧ s.size ≤ reachBytes := by
  cases n with
  | zero => exact h.elim
  | succ n => unfold Fits at h; rw [hu] at h; exact h
theorem Fits.slice {P : Program} {n : Nat} {t e : TypeId} {xs : List AV} (hu : P.underlying t = some (.slice e)) (h : Fits P n t xs) : ∃ ys : List AV, xs = [.list .shared (P.cellsOf e) ys] ∧ ys.length * P.bytesOf e ≤ reachBytes ∧ ys.length ≤ maxLen ∧ ∀ y, y ∈ ys → ∃ zs, y = elemV zs ∧ zs.length = P.cellsOf e ∧ Fits P (n - 1) e zs := by
  cases n with
  | zero => exact h.elim
  | succ n => unfold Fits at h; rw [hu] at h; exact h
theorem Fits.struct {P : Program} {n : Nat} {t : TypeId} {fs : Array Field} {xs : List AV} (hu : P.underlying t = some (.struct fs)) (h : Fits P n t xs) : xs.length = P.cellsOf t ∧ ∀ (i : Nat) (f : Field), fs[i]? = some f → Fits P (n - 1) f.type ((xs.drop f.offset).take (P.cellsOf f.type)) := by
  cases n with
  | zero => exact h.elim
  | succ n => unfold Fits at h; rw [hu] at h; exact ⟨h.1, h.2.2⟩

theorem Fits.array {P : Program} {n : Nat} {t e : TypeId} {k : Nat} {xs : List AV} (hu : P.underlying t = some (.array k e)) (h : Fits P n t xs) : xs.length = P.cellsOf t ∧ ∀ i, i < k → Fits P (n - 1) e ((xs.drop (i * P.cellsOf e)).take (P.cellsOf e)) := by
  cases n with
  | zero => exact h.elim
  | succ n => unfold Fits at h; rw [hu] at h; exact ⟨h.1, h.2.2⟩

/-- Where fields end that lie one behind the other. -/
def offsB (P : Program) (ts : List TypeId) : Nat → List Field → Option Nat
  | o, [] => some o
  | o, f :: fs => if f.offset = o ∧ ts.contains f.type = true then offsB P ts (o + P.cellsOf f.type) fs else none

/-- Types that are read so. -/
def plainT (P : Program) (ts : List TypeId) (t : TypeId) : Bool :=
  match P.underlying t with
  | some .bool | some (.int _) | some .string => true
  | some (.slice e) => ts.contains e && decide (0 < P.cellsOf e)
  | some (.struct fs) => decide (offsB P ts 0 fs.toList = some (P.cellsOf t)) && decide (1 < P.cellsOf t)
  | some (.array k e) => ts.contains e && decide (k * P.cellsOf e = P.cellsOf t) && decide (1 < P.cellsOf t)
  | _ => false

theorem Fits.solid {P : Program} {n : Nat} {t : TypeId} {xs : List AV} (h : Fits P n t xs) : (elemV xs).cells = xs := by
  cases n with
  | zero => exact h.elim
  | succ n =>
    unfold Fits at h
    split at h
    · obtain ⟨b, rfl⟩ := h; rfl
    · obtain ⟨i, rfl, _⟩ := h; rfl
    · obtain ⟨s, rfl, _⟩ := h; rfl
    · obtain ⟨ys, rfl, _⟩ := h; rfl
    · obtain ⟨_, h, _⟩ := h
      match xs, h with
      | x :: y :: xs, _ => rfl
    · obtain ⟨_, h, _⟩ := h
      match xs, h with
      | x :: y :: xs, _ => rfl
    · exact h.elim

section
variable {H : Type} {enc : TypeId × Value → H} {P : Program} {w : World} {held : Bool} {ts : List TypeId}

/-- An array's element, as if it were a field. -/
def elemF (e : TypeId) (c i : Nat) : Field := { name := "", type := e, offset := i * c, embedded := false, tag := "", pkgPath := "", byteOffset := 0 }
end

def okc0 (P : Program) (tabs : World → Prop := fun _ => True) : (Nat → Code → C → Prop) × (World → Prop) := (fun nt code c => okY P nt code c = true, tabs)

/-- What the machine told of calls in an empty memory may be kept in a table. -/
theorem orc_sound {P : Program} {tabs : World → Prop} (hmix : P.follows .mixedOrders = true) {T : Nat → Option IFn} (hT : ∀ f fn, T f = some fn → okFn P f fn = true) (hO : ∀ f fn, T f = some fn → OrcSound P (okc0 P tabs) f fn) {f : Nat} {fn : IFn} (hf : f < yb)
    (h : ∀ args M r M', fn.orc args M = some (r, M') → M' = M ∧ AV.underAll 0 args = true ∧ ∃ n b, callN T n f args ⟨[], none⟩ = some (r, ⟨[], b⟩)) : OrcSound P (okc0 P tabs) f fn := by
  intro args M r M' hr
  obtain ⟨rfl, h1, n, b, h2⟩ := h args M r M' hr
  refine ⟨Keeps.refl _, fun w0 hw0 s w vs hm hl hv => ?_⟩
  refine frame_call h1 (fun s W vs hW hm hl hv => ?_) hm hl hv
  refine (((callN_sound (w0 := w0.later W s.fz hW) hmix hT (by rw [show (w0.later W s.fz hW).env = w0.env from rfl, hw0]; exact hO) (fun _ _ _ => by rw [show (w0.later W s.fz hW).okc = w0.okc from rfl, show w0.okc = (okc0 P tabs).1 from congrArg Prod.fst hw0]; exact Iff.rfl) n _ rfl f args _ _ _ h2).1 hf).2 s W vs hm hl hv).mono ?_
  rintro e W' ⟨v, s', he, h3, h4, h5⟩
  exact ⟨v, s', b, he, h3, h4, h5⟩

/-- A table of no arguments' answer. -/
def orc0 (r : AV) : List AV → Mem → Option (AV × Mem)
  | [], M => some (r, M)
  | _, _ => none

/-- A table of calls that were evaluated: arguments, answer. -/
def orcT (t : List (List AV × AV)) (args : List AV) (M : Mem) : Option (AV × Mem) :=
  match t with
  | [] => none
  | (a, r) :: t => if AV.beqs a args then some (r, M) else orcT t args M

theorem orcT_sound {P : Program} {tabs : World → Prop} (hmix : P.follows .mixedOrders = true) {T : Nat → Option IFn} (hT : ∀ f fn, T f = some fn → okFn P f fn = true) (hO : ∀ f fn, T f = some fn → OrcSound P (okc0 P tabs) f fn) {f : Nat} {fn : IFn} (hf : f < yb) {t : List (List AV × AV)} (ho : fn.orc = orcT t)
    (h : ∀ p ∈ t, AV.underAll 0 p.1 = true ∧ ∃ n b, callN T n f p.1 ⟨[], none⟩ = some (p.2, ⟨[], b⟩)) : OrcSound P (okc0 P tabs) f fn :=
  orc_sound hmix hT hO hf fun args M r' M' hr => by
    rw [ho] at hr
    clear ho
    induction t with
    | nil => simp [orcT] at hr
    | cons p t ih =>
      obtain ⟨a, r⟩ := p
      simp only [orcT] at hr
      split at hr
      · rename_i hb
        simp only [Option.some.injEq, Prod.mk.injEq] at hr
        obtain ⟨rfl, rfl⟩ := hr
        have := beqs_eq _ _ hb
        subst this
        obtain ⟨q1, n, b, q2⟩ := h _ List.mem_cons_self
        exact ⟨rfl, q1, n, b, q2⟩
      · exact ih (fun p hp => h p (List.mem_cons_of_mem _ hp)) hr

/-- A law that the machine finds true is true. -/
theorem law_calls {P : Program} {W : World} {tabs : World → Prop} (ht : ∀ w', RowKit.Below W.heap.size W w' → tabs w') (hmix : P.follows .mixedOrders = true) {T : Nat → Option IFn} (hT : ∀ f fn, T f = some fn → okFn P f fn = true) (hO : ∀ f fn, T f = some fn → OrcSound P (okc0 P tabs) f fn) {f : Nat} {args : List AV} {vs : List Value} {M' : Mem}
    (hf : f < yb) (h : Am.Call T f args ⟨[], none⟩ = some (.bool true, M')) (hl : args.length = vs.length) (hv : ∀ (i : Nat) (x : AV) (v : Value), args[i]? = some x → vs[i]? = some v → VR (sim0 W) x v) :
    Calls P f vs.toArray W fun e W' => e = .returned (.bool true) ∧ RowKit.Below W.heap.size W W' := by
  obtain ⟨n, hn⟩ := call_some.1 h
  refine (((callN_sound (w0 := base0 P W tabs ht) hmix hT hO (fun _ _ _ => Iff.rfl) n _ rfl f args _ _ _ hn).1 hf).2 (sim0 W) W vs (mr0 P W) hl hv).mono fun e W' ⟨v, s', he, _, hr, hm⟩ => ?_
  cases hr
  exact ⟨he, hm.below⟩

end Go.Am
