/- An abstract machine for the part of Go that this program uses: what each step of memory does to the relation. -/
import Derived.Test.YtdddcofggemnkaaAmRel
import Derived.Laws.Rows
import Derived.Laws.CopyRow
import Derived.Laws.AppendOwn
import Derived.RangeFuncRecord
namespace Go.Am
set_option linter.all false
open Go Go.RowKit

theorem OR.keep0 {w0 : Base} {s s' : Sim} {w w' : World} {id : Nat} {o : AObj} (h : OR w0 s w id o) (hle : s.le0 s') (hloc : s'.loc id = s.loc id)
    (hb : ∀ l b, s.loc id = some l → l.block = some b → w'.heap[b]? = w.heap[b]? ∧ ∀ o, s'.fz b o = s.fz b o) : OR w0 s' w' id o := by
  cases o with
  | row ver cs =>
    obtain ⟨b, c, e, h1, h2, h3, h4, h5⟩ := h
    obtain ⟨k1, k2⟩ := hb _ b h1 rfl
    exact ⟨b, c, e, hloc.trans h1, k1.trans h2, h3, fun i x v hx hv => ⟨(h4 i x v hx hv).1.mono0 hle, (h4 i x v hx hv).2⟩, fun o => (k2 o).trans (h5 o)⟩
  | map es =>
    obtain ⟨b, mes, clock, h1, h2, h3, h4⟩ := h
    obtain ⟨k1, k2⟩ := hb _ b h1 rfl
    exact ⟨b, mes, clock, hloc.trans h1, k1.trans h2, h3, fun i e m he hm => ⟨(h4 i e m he hm).1.mono0 hle, (h4 i e m he hm).2.mono0 hle⟩⟩
  | tip n =>
    obtain ⟨k, a, cap, h1, h2⟩ := h
    refine ⟨k, a, cap, hloc.trans h1, ?_⟩
    cases a with
    | none => exact h2
    | some b =>
      obtain ⟨c, e, g1, g2, g3, g4, g5, g6⟩ := h2
      obtain ⟨k1, k2⟩ := hb _ b h1 rfl
      exact ⟨c, e, k1.trans g1, g2, g3, g4, g5, fun o ho => (k2 o).trans (g6 o ho)⟩
  | dead =>
    obtain ⟨ver, n, h1⟩ := h
    exact ⟨ver, n, hloc.trans h1⟩
  | loop ps as body env st =>
    obtain ⟨l, r, nt, h1, h2, h3⟩ := h
    obtain ⟨q1, q2, q3, q4, q5, q6, q7, q8⟩ := h3
    exact ⟨l, r, nt, hloc.trans h1, ((hb _ l h1 rfl).1).trans h2, q1, q2, q3, q4, q5, q6, q7.mono0 hle, q8⟩
  | gone =>
    obtain ⟨l, r, h1, h2⟩ := h
    exact ⟨l, r, hloc.trans h1, ((hb _ l h1 rfl).1).trans h2⟩

theorem OR.keep {w0 : Base} {s s' : Sim} {w w' : World} {id : Nat} {o : AObj} (h : OR w0 s w id o) (hle : s.le s') (hloc : s'.loc id = s.loc id)
    (hb : ∀ l b, s.loc id = some l → l.block = some b → w'.heap[b]? = w.heap[b]? ∧ ∀ o, s'.fz b o = s.fz b o) : OR w0 s' w' id o := h.keep0 hle.to0 hloc hb

theorem OR.loc_some {w0 : Base} {s : Sim} {w : World} {id : Nat} {o : AObj} (h : OR w0 s w id o) : ∃ l, s.loc id = some l := by
  cases o with
  | row ver cs => obtain ⟨b, c, e, h1, _⟩ := h; exact ⟨_, h1⟩
  | map es => obtain ⟨b, mes, clock, h1, _⟩ := h; exact ⟨_, h1⟩
  | tip n => obtain ⟨k, a, cap, h1, _⟩ := h; exact ⟨_, h1⟩
  | dead => obtain ⟨ver, n, h1⟩ := h; exact ⟨_, h1⟩
  | loop _ _ _ _ _ => obtain ⟨l, r, nt, h1, _⟩ := h; exact ⟨_, h1⟩
  | gone => obtain ⟨l, r, h1, _⟩ := h; exact ⟨_, h1⟩

/-- What lies at an object's block: it is no block for deferred calls. -/
theorem OR.block_obj {w0 : Base} {s : Sim} {w : World} {id : Nat} {o : AObj} (h : OR w0 s w id o) {l : Loc} {b : Nat} (hl : s.loc id = some l) (hb : l.block = some b) : ∃ x, w.heap[b]? = some x ∧ x ≠ .deferred (some []) := by
  cases o with
  | row ver cs =>
    obtain ⟨b', c, e, h1, h2, _⟩ := h
    rw [h1] at hl; cases hl; cases hb; exact ⟨_, h2, by simp⟩
  | map es =>
    obtain ⟨b', mes, clock, h1, h2, _⟩ := h
    rw [h1] at hl; cases hl; cases hb; exact ⟨_, h2, by simp⟩
  | tip n =>
    obtain ⟨k, a, cap, h1, h2⟩ := h
    rw [h1] at hl; cases hl
    cases a with
    | none => cases hb
    | some b' =>
      cases hb
      obtain ⟨c, e, g1, _⟩ := h2
      exact ⟨_, g1, by simp⟩
  | dead =>
    obtain ⟨ver, n, h1⟩ := h
    rw [h1] at hl; cases hl; cases hb
  | loop _ _ _ _ _ =>
    obtain ⟨l', r, nt, h1, h2, _⟩ := h
    rw [h1] at hl; cases hl; cases hb; exact ⟨_, h2, by simp⟩
  | gone =>
    obtain ⟨l', r, h1, h2⟩ := h
    rw [h1] at hl; cases hl; cases hb; exact ⟨_, h2, by simp⟩

theorem OR.block_lt {w0 : Base} {s : Sim} {w : World} {id : Nat} {o : AObj} (h : OR w0 s w id o) {l : Loc} {b : Nat} (hl : s.loc id = some l) (hb : l.block = some b) : b < w.heap.size := by
  obtain ⟨x, hx, _⟩ := h.block_obj hl hb
  exact (Array.getElem?_eq_some_iff.1 hx).1

section
variable {w0 : Base} {s : Sim} {M : Mem} {w : World}

theorem MR.lt (h : MR w0 s M w) {id : Nat} {l : Loc} (hl : s.loc id = some l) : id < M.objs.length := by
  rcases Nat.lt_or_ge id M.objs.length with h1 | h1
  · exact h1
  · rw [h.dom id h1] at hl; cases hl

theorem MR.block_lt (h : MR w0 s M w) {id : Nat} {l : Loc} {b : Nat} (hl : s.loc id = some l) (hb : l.block = some b) : b < w.heap.size :=
  (h.obj id _ (List.getElem?_eq_getElem (h.lt hl))).block_lt hl hb

theorem MR.block_def (h : MR w0 s M w) {id : Nat} {l : Loc} {b : Nat} (hl : s.loc id = some l) (hb : l.block = some b) : w.heap[b]? ≠ some (.deferred (some [])) := by
  obtain ⟨x, h1, h2⟩ := (h.obj id _ (List.getElem?_eq_getElem (h.lt hl))).block_obj hl hb
  rw [h1]
  exact fun e => h2 (Option.some.inj e)

theorem MR.def_lt (h : MR w0 s M w) {d : Nat} (hd : s.defs d) : d < w.heap.size := (Array.getElem?_eq_some_iff.1 (h.defs d hd).2).1

theorem MR.fz_lt (h : MR w0 s M w) {b o : Nat} {v : Value} (hf : s.fz b o = some v) : b < w.heap.size := block_lt_of_cell (h.fz b o v hf).1

theorem MR.fz_new (h : MR w0 s M w) (o : Nat) : s.fz w.heap.size o = none := by
  cases hf : s.fz w.heap.size o with
  | none => rfl
  | some v => exact absurd (h.fz_lt hf) (Nat.lt_irrefl _)

theorem MR.drew (h : MR w0 s M w) : MR w0 s M w.drew :=
  ⟨h.below.drew, h.fz, h.dom, fun id o ho => (h.obj id o ho).keep (.refl s) rfl fun _ _ _ _ => ⟨rfl, fun _ => rfl⟩, h.inj, h.own, h.defs, h.old⟩

def Sim.setLoc (s : Sim) (id : Nat) (l : Loc) : Sim := { s with loc := fun i => if i = id then some l else s.loc i }

def Sim.freeze (s : Sim) (b : Nat) (f : Nat → Option Value) : Sim := { s with fz := fun b' o => if b' = b then f o else s.fz b' o }

theorem le_setLoc_new (h : MR w0 s M w) (l : Loc) : s.le (s.setLoc M.objs.length l) :=
  ⟨fun _ _ _ e => e, fun id l' e => ⟨l', by
    have := h.lt e
    simp only [Sim.setLoc]
    rw [if_neg (by omega)]; exact e, l'.le_refl⟩, fun _ h => h⟩

theorem le_freeze_new (h : MR w0 s M w) (f : Nat → Option Value) : s.le (s.freeze w.heap.size f) :=
  ⟨fun b o v e => by
    have := h.fz_lt e
    simp only [Sim.freeze]
    rw [if_neg (by omega)]; exact e, fun id l e => ⟨l, e, l.le_refl⟩, fun _ h => h⟩

/-- A new block that nobody knows of. -/
theorem MR.alloc (h : MR w0 s M w) (o : Obj) : MR w0 s M (w.alloc o) :=
  ⟨h.below.alloc h.below.size o, fun b i v hf => ⟨by rw [World.cell?_alloc_lt (h := h.fz_lt hf)]; exact (h.fz b i v hf).1, (h.fz b i v hf).2⟩, h.dom,
    fun id x hx => (h.obj id x hx).keep (.refl s) rfl fun l b hl hb => ⟨heap_alloc_old w o b (h.block_lt hl hb), fun _ => rfl⟩, h.inj, h.own, fun d hd => ⟨(h.defs d hd).1, (heap_alloc_old w o d (h.def_lt hd)).trans (h.defs d hd).2⟩, h.old⟩

/-- A new block of which all is frozen. -/
theorem MR.allocFz (h : MR w0 s M w) (c : Array Value) (e : TypeId) (f : Nat → Option Value) (hf : ∀ o v, f o = some v → c[o]? = some v ∧ one v = true) :
    MR w0 (s.freeze w.heap.size f) M (w.alloc (.cells c e)) := by
  refine ⟨h.below.alloc h.below.size _, fun b i v hb => ?_, h.dom, fun id x hx => (h.obj id x hx).keep (le_freeze_new h f) rfl fun l b hl hb => ⟨heap_alloc_old w _ b (h.block_lt hl hb), fun o => ?_⟩, h.inj, h.own, fun d hd => ⟨(h.defs d hd).1, (heap_alloc_old w _ d (h.def_lt hd)).trans (h.defs d hd).2⟩, fun b o v hb hv => h.old b o v hb ?_⟩
  · simp only [Sim.freeze] at hb
    split at hb
    · rename_i e1
      subst e1
      obtain ⟨h1, h2⟩ := hf i v hb
      exact ⟨by rw [cell_of_row _ _ i c e (0, 0) (heap_alloc_new w _)]; exact h1, h2⟩
    · exact ⟨by rw [World.cell?_alloc_lt (h := h.fz_lt hb)]; exact (h.fz b i v hb).1, (h.fz b i v hb).2⟩
  · have := h.block_lt hl hb
    simp only [Sim.freeze]
    rw [if_neg (by omega)]
  · have := h.below.size
    simp only [Sim.freeze] at hv
    rwa [if_neg (by omega)] at hv

theorem push_get {M : Mem} {o : AObj} {id : Nat} {x : AObj} (h : (M.push o).objs[id]? = some x) : (id = M.objs.length ∧ x = o) ∨ M.objs[id]? = some x := by
  simp only [Mem.push] at h
  rw [List.getElem?_append] at h
  split at h
  · exact .inr h
  · left
    rename_i hge
    have : id - M.objs.length = 0 := by
      rcases Nat.eq_zero_or_pos (id - M.objs.length) with e | e
      · exact e
      · rw [List.getElem?_eq_none (by simp only [List.length_cons, List.length_nil]; omega)] at h; cases h
    rw [this] at h
    simp only [List.getElem?_cons_zero, Option.some.injEq] at h
    exact ⟨by omega, h.symm⟩

/-- A new object, at a new block or at none. -/
theorem MR.pushObj (h : MR w0 s M w) (o : AObj) (l : Loc) (hb : ∀ b, l.block = some b → w0.heap.size ≤ b ∧ ∀ i l', s.loc i = some l' → l'.block ≠ some b)
    (ho : OR w0 (s.setLoc M.objs.length l) w M.objs.length o) : MR w0 (s.setLoc M.objs.length l) (M.push o) w := by
  refine ⟨h.below, h.fz, fun id hid => ?_, fun id x hx => ?_, fun i j l1 l2 b hi hj h1 h2 => ?_, fun i l1 b hi h1 => ?_, h.defs, h.old⟩
  · simp only [Mem.push, List.length_append, List.length_cons, List.length_nil] at hid
    simp only [Sim.setLoc]
    rw [if_neg (by omega)]
    exact h.dom id (by omega)
  · rcases push_get hx with ⟨rfl, rfl⟩ | hx
    · exact ho
    · have hid : id < M.objs.length := (List.getElem?_eq_some_iff.1 hx).1
      exact (h.obj id x hx).keep (le_setLoc_new h l) (by simp only [Sim.setLoc]; rw [if_neg (by omega)]) fun _ _ _ _ => ⟨rfl, fun _ => rfl⟩
  · simp only [Sim.setLoc] at hi hj
    split at hi <;> split at hj
    · omega
    · simp only [Option.some.injEq] at hi; subst hi
      exact absurd h2 ((hb b h1).2 j l2 hj)
    · simp only [Option.some.injEq] at hj; subst hj
      exact absurd h1 ((hb b h2).2 i l1 hi)
    · exact h.inj i j l1 l2 b hi hj h1 h2
  · simp only [Sim.setLoc] at hi
    split at hi
    · simp only [Option.some.injEq] at hi; subst hi
      exact (hb b h1).1
    · exact h.own i l1 b hi h1

theorem setLoc_self (s : Sim) (id : Nat) (l : Loc) : (s.setLoc id l).loc id = some l := by simp [Sim.setLoc]

/-- A new row; there may be room behind it. -/
theorem MR.newRowV (h : MR w0 s M w) (ver : Nat) (cs : List AV) (c : Array Value) (e : TypeId) (hl : cs.length ≤ c.size)
    (hv : ∀ (i : Nat) (x : AV) (v : Value), cs[i]? = some x → c[i]? = some v → VR s x v ∧ one v = true) :
    MR w0 (s.setLoc M.objs.length (.row ver (some w.heap.size) c.size)) (M.push (.row ver cs)) (w.alloc (.cells c e)) := by
  refine (h.alloc (.cells c e)).pushObj (.row ver cs) (.row ver (some w.heap.size) c.size) ?_ ?_
  · intro b hb
    simp only [Loc.block, Option.some.injEq] at hb
    subst hb
    exact ⟨h.below.size, fun i l' hl' hb' => absurd (h.block_lt hl' hb') (Nat.lt_irrefl _)⟩
  · exact ⟨w.heap.size, c, e, setLoc_self _ _ _, heap_alloc_new w _, hl, fun i x v hx hv' => ⟨(hv i x v hx hv').1.mono (le_setLoc_new h _), (hv i x v hx hv').2⟩, fun o => h.fz_new o⟩

/-- A new row. -/
theorem MR.newRow (h : MR w0 s M w) (cs : List AV) (c : Array Value) (e : TypeId) (hl : c.size = cs.length)
    (hv : ∀ (i : Nat) (x : AV) (v : Value), cs[i]? = some x → c[i]? = some v → VR s x v ∧ one v = true) :
    MR w0 (s.setLoc M.objs.length (.row 0 (some w.heap.size) c.size)) (M.push (.row 0 cs)) (w.alloc (.cells c e)) :=
  h.newRowV 0 cs c e (by omega) hv

/-- A new map. -/
theorem MR.newMap (h : MR w0 s M w) : MR w0 (s.setLoc M.objs.length (.map w.heap.size)) (M.push (.map [])) (w.alloc (.map #[] 0)) := by
  refine (h.alloc (.map #[] 0)).pushObj (.map []) (.map w.heap.size) ?_ ?_
  · intro b hb
    simp only [Loc.block, Option.some.injEq] at hb
    subst hb
    exact ⟨h.below.size, fun i l' hl' hb' => absurd (h.block_lt hl' hb') (Nat.lt_irrefl _)⟩
  · exact ⟨w.heap.size, #[], 0, setLoc_self _ _ _, heap_alloc_new w _, rfl, fun i e m he => by simp at he⟩

/-- A nil slice that may be appended to. -/
theorem MR.newTip (h : MR w0 s M w) (k : Nat) : MR w0 (s.setLoc M.objs.length (.tip 0 k none 0)) (M.push (.tip 0)) w :=
  h.pushObj (.tip 0) (.tip 0 k none 0) (fun b hb => by cases hb) ⟨k, none, 0, setLoc_self _ _ _, rfl, rfl⟩

theorem set_get {α : Type} {l : List α} {id i : Nat} {o x : α} (h : (l.set id o)[i]? = some x) : (i = id ∧ x = o) ∨ (i ≠ id ∧ l[i]? = some x) := by
  rw [List.getElem?_set] at h
  split at h
  · rename_i e
    split at h
    · simp only [Option.some.injEq] at h; exact .inl ⟨e.symm, h.symm⟩
    · cases h
  · rename_i e; exact .inr ⟨fun e' => e e'.symm, h⟩

/-- One object is written, in a block of its own; what is frozen stays. -/
theorem MR.setObj (h : MR w0 s M w) {id : Nat} (hid : id < M.objs.length) (o : AObj) (l : Loc) {l0 : Loc} (hl0 : s.loc id = some l0) (hle : l0.le l) (w' : World) (f : Nat → Nat → Option Value)
    (hf : ∀ b o v, s.fz b o = some v → f b o = some v) (hf' : ∀ b o, l.block ≠ some b → f b o = s.fz b o)
    (hw : ∀ b, l.block ≠ some b → b < w.heap.size → w'.heap[b]? = w.heap[b]?) (hb : Below w0.heap.size w0 w')
    (hlb : ∀ b, l.block = some b → w0.heap.size ≤ b ∧ (l0.block = some b ∨ ((∀ i l', s.loc i = some l' → l'.block ≠ some b) ∧ w.heap[b]? ≠ some (.deferred (some [])))))
    (hfz : ∀ b o v, l.block = some b → f b o = some v → w'.cell? ⟨b, o, none⟩ = some v ∧ one v = true)
    (ho : OR w0 { fz := f, loc := (s.setLoc id l).loc, defs := s.defs } w' id o) (bad : Option Nat) :
    s.le { fz := f, loc := (s.setLoc id l).loc, defs := s.defs } ∧ MR w0 { fz := f, loc := (s.setLoc id l).loc, defs := s.defs } { objs := M.objs.set id o, bad := bad } w' := by
  have hle' : s.le { fz := f, loc := (s.setLoc id l).loc, defs := s.defs } := ⟨hf, fun i l1 h1 => by
    by_cases e : i = id
    · subst e
      rw [hl0] at h1; cases h1
      exact ⟨l, by simp [Sim.setLoc], hle⟩
    · exact ⟨l1, by simp [Sim.setLoc, e, h1], l1.le_refl⟩, fun _ h => h⟩
  refine ⟨hle', hb, fun b o v hv => ?_, fun i hi => ?_, fun i x hx => ?_, fun i j l1 l2 b hi hj h1 h2 => ?_, fun i l1 b hi h1 => ?_, fun d hd => ⟨(h.defs d hd).1, ?_⟩, fun b o v hb hv => h.old b o v hb ?_⟩
  · by_cases e : l.block = some b
    · exact hfz b o v e hv
    · simp only at hv
      rw [hf' b o e] at hv
      obtain ⟨h1, h2⟩ := h.fz b o v hv
      exact ⟨by rw [World.cell?_of_block (w := w) (hw b e (h.fz_lt hv))]; exact h1, h2⟩
  · simp only [List.length_set] at hi
    simp only [Sim.setLoc]
    rw [if_neg (by omega)]
    exact h.dom i hi
  · rcases set_get hx with ⟨rfl, rfl⟩ | ⟨hne, hx⟩
    · exact ho
    · refine (h.obj i x hx).keep hle' (by simp [Sim.setLoc, hne]) fun l1 b h1 h2 => ?_
      have hne' : l.block ≠ some b := by
        intro e
        rcases (hlb b e).2 with e2 | e2
        · exact hne (h.inj i id l1 l0 b h1 hl0 h2 e2)
        · exact e2.1 i l1 h1 h2
      exact ⟨hw b hne' (h.block_lt h1 h2), fun o => hf' b o hne'⟩
  · simp only [Sim.setLoc] at hi hj
    split at hi <;> split at hj
    · omega
    · simp only [Option.some.injEq] at hi; subst hi
      rename_i ei ej
      rcases (hlb b h1).2 with e2 | e2
      · exact ei.trans (h.inj j id l2 l0 b hj hl0 h2 e2).symm
      · exact absurd h2 (e2.1 j l2 hj)
    · simp only [Option.some.injEq] at hj; subst hj
      rename_i ei ej
      rcases (hlb b h2).2 with e2 | e2
      · exact (h.inj i id l1 l0 b hi hl0 h1 e2).trans ej.symm
      · exact absurd h1 (e2.1 i l1 hi)
    · exact h.inj i j l1 l2 b hi hj h1 h2
  · simp only [Sim.setLoc] at hi
    split at hi
    · simp only [Option.some.injEq] at hi; subst hi
      exact (hlb b h1).1
    · exact h.own i l1 b hi h1
  · have hne : l.block ≠ some d := by
      intro e
      rcases (hlb d e).2 with e2 | e2
      · exact h.block_def hl0 e2 (h.defs d hd).2
      · exact e2.2 (h.defs d hd).2
    exact (hw d hne (h.def_lt hd)).trans (h.defs d hd).2
  · rw [← hf' b o (fun e => by have := (hlb b e).1; omega)]
    exact hv

theorem OR.row_of {id : Nat} {o : AObj} (h : OR w0 s w id o) {ver : Nat} {b : Option Nat} {n : Nat} (hl : s.loc id = some (.row ver b n)) : (∃ cs, o = .row ver cs) ∨ o = .dead := by
  cases o with
  | row v cs => obtain ⟨b', c, e, h1, _⟩ := h; rw [h1] at hl; cases hl; exact .inl ⟨cs, rfl⟩
  | map es => obtain ⟨b', mes, clock, h1, _⟩ := h; rw [h1] at hl; cases hl
  | tip n => obtain ⟨k, a, cap, h1, _⟩ := h; rw [h1] at hl; cases hl
  | dead => exact .inr rfl
  | loop _ _ _ _ _ => obtain ⟨l, r, nt, h1, _⟩ := h; rw [h1] at hl; cases hl
  | gone => obtain ⟨l, r, h1, _⟩ := h; rw [h1] at hl; cases hl

/-- What is dropped is forgotten. -/
theorem MR.cut (h : MR w0 s M w) (n : Nat) (bad : Option Nat) (hn : ∀ i o, i < n → M.objs[i]? = some o → OR w0 (s.cut n) w i o) : MR w0 (s.cut n) { objs := M.objs.take n, bad := bad } w := by
  refine ⟨h.below, h.fz, fun id hid => ?_, fun id o ho => ?_, fun i j l l' b hi hj => ?_, fun i l b hi => ?_, h.defs, h.old⟩
  · simp only [Sim.cut]
    split
    · rename_i h1
      simp only [List.length_take] at hid
      exact h.dom id (by omega)
    · rfl
  · simp only [List.getElem?_take] at ho
    split at ho
    · rename_i h1; exact hn id o h1 ho
    · cases ho
  · simp only [Sim.cut] at hi hj
    split at hi <;> split at hj <;> first | (cases hi; done) | (cases hj; done) | exact h.inj i j l l' b hi hj
  · simp only [Sim.cut] at hi
    split at hi
    · exact h.own i l b hi
    · cases hi
end

theorem OR.cut {w0 : Base} {s : Sim} {w : World} {id : Nat} {o : AObj} (h : OR w0 s w id o) {n : Nat} (hid : id < n) (hu : o.under n = true) : OR w0 (s.cut n) w id o := by
  have hl : ∀ l, s.loc id = some l → (s.cut n).loc id = some l := fun l e => by simp [Sim.cut, hid, e]
  cases o with
  | row ver cs =>
    obtain ⟨b, c, e, h1, h2, h3, h4, h5⟩ := h
    exact ⟨b, c, e, hl _ h1, h2, h3, fun i x v hx hv => ⟨(h4 i x v hx hv).1.cut (underAll_get hu hx), (h4 i x v hx hv).2⟩, h5⟩
  | map es =>
    obtain ⟨b, mes, clock, h1, h2, h3, h4⟩ := h
    refine ⟨b, mes, clock, hl _ h1, h2, h3, fun i e m he hm => ?_⟩
    have := List.all_eq_true.1 hu e (List.mem_of_getElem? he)
    simp only [Bool.and_eq_true] at this
    exact ⟨(h4 i e m he hm).1.cut this.1, (h4 i e m he hm).2.cut this.2⟩
  | tip n' =>
    obtain ⟨k, a, cap, h1, h2⟩ := h
    exact ⟨k, a, cap, hl _ h1, h2⟩
  | dead =>
    obtain ⟨ver, n, h1⟩ := h
    exact ⟨ver, n, hl _ h1⟩
  | loop ps as body env st =>
    obtain ⟨l, r, nt, h1, h2, q1, q2, q3, q4, q5, q6, q7, q8⟩ := h
    exact ⟨l, r, nt, hl _ h1, h2, q1, q2, q3, q4, q5, q6, q7.cut hu, q8⟩
  | gone =>
    obtain ⟨l, r, h1, h2⟩ := h
    exact ⟨l, r, hl _ h1, h2⟩

section
variable {w0 : Base} {s : Sim} {M : Mem} {w : World}

theorem heap_put_ne {w : World} {r k : Nat} {o : Obj} (h : k ≠ r) : (w.putObj r o).heap[k]? = w.heap[k]? := World.putObj_heap_other h

theorem below_putObj (h : Below w0.heap.size w0 w) {r : Nat} (hr : w0.heap.size ≤ r) (o : Obj) : Below w0.heap.size w0 (w.putObj r o) :=
  ⟨h.os, h.tape, h.output, by simpa [World.putObj] using h.size, fun k hk => by rw [heap_put_ne (by omega)]; exact h.block k hk⟩

theorem no_cell {w : World} {b : Nat} {x : Obj} (h : w.heap[b]? = some x) (hx : ∀ c e p, x ≠ .cells c e p) (o : Nat) : w.cell? ⟨b, o, none⟩ = none := by
  unfold World.cell?
  simp only [h]
  cases x <;> first | rfl | (exact absurd rfl (hx _ _ _))

/-- A loop's record is turned. -/
theorem MR.markLoop (h : MR w0 s M w) {id l : Nat} {r r' : Loop} (hl : s.loc id = some (.loop l)) (hr : w.heap[l]? = some (.loop r)) (o : AObj) (ho : OR w0 s (w.putObj l (.loop r')) id o) :
    MR w0 s (M.mark id o) (w.putObj l (.loop r')) := by
  have hs : ({ fz := s.fz, loc := (s.setLoc id (.loop l)).loc, defs := s.defs } : Sim) = s := by
    cases s with
    | mk fz loc defs =>
      simp only [Sim.setLoc, Sim.mk.injEq, true_and, and_true]
      funext i
      split
      · rename_i e; subst e; exact hl.symm
      · rfl
  have := h.setObj (h.lt hl) o (.loop l) hl (Loc.le_refl _) (w.putObj l (.loop r')) s.fz (fun _ _ _ h => h) (fun _ _ _ => rfl)
    (fun b hb _ => heap_put_ne (fun e => hb (by rw [e]; rfl))) (below_putObj h.below (h.own id _ l hl rfl) _)
    (fun b hb => by
      cases hb
      exact ⟨h.own id _ l hl rfl, .inl rfl⟩)
    (fun b i v hb hv => by
      cases hb
      have h1 := (h.fz _ _ _ hv).1
      rw [no_cell hr (by simp)] at h1
      cases h1)
    (by rw [hs]; exact ho) M.bad
  rw [hs] at this
  exact this.2

/-- A new block for deferred calls. -/
theorem MR.newDefs (h : MR w0 s M w) : s.le { s with defs := fun d => s.defs d ∨ d = w.heap.size } ∧ MR w0 { s with defs := fun d => s.defs d ∨ d = w.heap.size } M (w.alloc (.deferred (some []))) ∧ ¬ s.defs w.heap.size := by
  have h1 := h.alloc (.deferred (some []))
  refine ⟨⟨fun _ _ _ h => h, fun _ l h => ⟨l, h, l.le_refl⟩, fun _ h => .inl h⟩, ⟨h1.below, h1.fz, h1.dom, fun id o ho => (h1.obj id o ho).keep ⟨fun _ _ _ h => h, fun _ l h => ⟨l, h, l.le_refl⟩, fun _ h => .inl h⟩ rfl fun _ _ _ _ => ⟨rfl, fun _ => rfl⟩, h1.inj, h1.own, fun d hd => ?_, h1.old⟩, fun hd => absurd (h.def_lt hd) (Nat.lt_irrefl _)⟩
  rcases hd with hd | rfl
  · exact h1.defs d hd
  · exact ⟨h.below.size, heap_alloc_new w _⟩

/-- A block for deferred calls is shut. -/
theorem MR.shut (h : MR w0 s M w) {d : Nat} (hd : s.defs d) : MR w0 { s with defs := fun e => s.defs e ∧ e ≠ d } M (w.putObj d (.deferred none)) := by
  obtain ⟨h0, h1⟩ := h.defs d hd
  have hne : ∀ id l b, s.loc id = some l → l.block = some b → b ≠ d := fun id l b hl hb e => h.block_def hl hb (by rw [e]; exact h1)
  refine ⟨below_putObj h.below h0 _, fun b i v hv => ?_, h.dom, fun id o ho => (h.obj id o ho).keep0 ⟨fun _ _ _ h => h, fun _ l h => ⟨l, h, l.le_refl⟩⟩ rfl fun l b hl hb => ⟨heap_put_ne (hne id l b hl hb), fun _ => rfl⟩, h.inj, h.own, fun e he => ⟨(h.defs e he.1).1, (heap_put_ne he.2).trans (h.defs e he.1).2⟩, h.old⟩
  obtain ⟨h2, h3⟩ := h.fz b i v hv
  refine ⟨?_, h3⟩
  have : b ≠ d := by
    rintro rfl
    rw [no_cell h1 (by simp)] at h2
    cases h2
  rw [World.cell?_of_block (w := w) (heap_put_ne this)]
  exact h2
end

end Go.Am
