/- An abstract machine for the part of Go that this program uses: what each step of memory does to the relation. -/
import Derived.Test.YtjkpoaijmbapiaaGreatDoorAmRel
import Derived.Laws.Rows
import Derived.Laws.CopyRow
import Derived.Laws.AppendOwn
import Derived.RangeFuncRecord
import Derived.Test.YtjkpoaijmbapiaaGreatDoorAmDefs
namespace Go.Am
set_option linter.all false
open Go Go.RowKit

theorem OR.keep0 {w0 : Base} {s s' : Sim} {w w' : World} {id : Nat} {o : AObj} (h : OR w0 s w id o) (hle : s.le0 s') (hloc : s'.loc id = s.loc id)
    (hb : ∀ l b, s.loc id = some l → l.block = some b → w'.heap[b]? = w.heap[b]? ∧ ∀ o, s'.fz b o = s.fz b o) : OR w0 s' w' id o := by
  cases o with
  | row ver cs =>
    obtain ⟨b, c, e, h1, h2, h3, h4, h5⟩ := h
    obtain ⟨k1, k2⟩ := hb _ b h1 rfl
    exact ⟨b, c, e, hloc.trans h1, k1.trans h2, h3, fun i x v hx hv => ⟨(h4 i x v hx hv).1.mono0 hle, (h4 i x v hx hv).2⟩, fun o => (k2 o).trans (h5 o)⟩
  | map es =>
    obtain ⟨b, mes, clock, h1, h2, h3, h5, h4⟩ := h
    obtain ⟨k1, k2⟩ := hb _ b h1 rfl
    exact ⟨b, mes, clock, hloc.trans h1, k1.trans h2, h3, h5, fun i e m he hm => ⟨(h4 i e m he hm).1.mono0 hle, (h4 i e m he hm).2.mono0 hle⟩⟩
  | tip n =>
    obtain ⟨k, a, cap, h1, h2⟩ := h
    refine ⟨k, a, cap, hloc.trans h1, ?_⟩
    cases a with
    | none => exact h2
    | some b =>
      obtain ⟨c, e, g1, g2, g3, g4, g6⟩ := h2
      obtain ⟨k1, k2⟩ := hb _ b h1 rfl
      exact ⟨c, e, k1.trans g1, g2, g3, g4, fun o ho => (k2 o).trans (g6 o ho)⟩
  | dead =>
    obtain ⟨ver, n, h1⟩ := h
    exact ⟨ver, n, hloc.trans h1⟩
  | loop ps as body env st =>
    obtain ⟨l, r, nt, h1, h2, h3⟩ := h
    obtain ⟨q1, q2, q3, q4, q5, q6, q7, q8⟩ := h3
    exact ⟨l, r, nt, hloc.trans h1, ((hb _ l h1 rfl).1).trans h2, q1, q2, q3, q4, q5, q6, q7.mono0 hle, q8⟩
  | gone =>
    obtain ⟨l, r, h1, h2⟩ := h
    exact ⟨l, r, hloc.trans h1, ((hb _ l h1 rfl).1).trans h2⟩
  | iter mid n seen =>
    obtain ⟨b, mb, h1, h2, h3, h4⟩ := h
    exact ⟨b, mb, hloc.trans h1, ((hb _ b h1 rfl).1).trans h2, hle.map h3, h4⟩
  | siter x pos =>
    obtain ⟨b, h1, h2⟩ := h
    exact ⟨b, hloc.trans h1, ((hb _ b h1 rfl).1).trans h2⟩

theorem OR.keep {w0 : Base} {s s' : Sim} {w w' : World} {id : Nat} {o : AObj} (h : OR w0 s w id o) (hle : s.le s') (hloc : s'.loc id = s.loc id)
    (hb : ∀ l b, s.loc id = some l → l.block = some b → w'.heap[b]? = w.heap[b]? ∧ ∀ o, s'.fz b o = s.fz b o) : OR w0 s' w' id o := h.keep0 hle.to0 hloc hb

/-- What lies at an object's block: it is no block for deferred calls. -/
theorem OR.block_obj {w0 : Base} {s : Sim} {w : World} {id : Nat} {o : AObj} (h : OR w0 s w id o) {l : Loc} {b : Nat} (hl : s.loc id = some l) (hb : l.block = some b) : ∃ x, w.heap[b]? = some x ∧ x ≠ .deferred (some []) := by
  cases o with
  | row ver cs =>
    obtain ⟨b', c, e, h1, h2, _⟩ := h
    rw [h1] at hl; cases hl; cases hb; exact ⟨_, h2, by simp⟩
  | map es =>
    obtain ⟨b', mes, clock, h1, h2, _⟩ := h
    rw [h1] at hl; cases hl; cases hb; exact ⟨_, h2, by simp⟩
  | tip n =>
    obtain ⟨k, a, cap, h1, h2⟩ := h
    rw [h1] at hl; cases hl
    cases a with
    | none => cases hb
    | some b' =>
      cases hb
      obtain ⟨c, e, g1, _⟩ := h2
      exact ⟨_, g1, by simp⟩
  | dead =>
    obtain ⟨ver, n, h1⟩ := h
    rw [h1] at hl; cases hl; cases hb
  | loop _ _ _ _ _ =>
    obtain ⟨l', r, nt, h1, h2, _⟩ := h
    rw [h1] at hl; cases hl; cases hb; exact ⟨_, h2, by simp⟩
  | gone =>
    obtain ⟨l', r, h1, h2⟩ := h
    rw [h1] at hl; cases hl; cases hb; exact ⟨_, h2, by simp⟩
  | iter _ _ _ =>
    obtain ⟨b', mb, h1, h2, _⟩ := h
    rw [h1] at hl; cases hl; cases hb; exact ⟨_, h2, by simp⟩
  | siter _ _ =>
    obtain ⟨b', h1, h2⟩ := h
    rw [h1] at hl; cases hl; cases hb; exact ⟨_, h2, by simp⟩

theorem OR.block_lt {w0 : Base} {s : Sim} {w : World} {id : Nat} {o : AObj} (h : OR w0 s w id o) {l : Loc} {b : Nat} (hl : s.loc id = some l) (hb : l.block = some b) : b < w.heap.size := by
  obtain ⟨x, hx, _⟩ := h.block_obj hl hb
  exact (Array.getElem?_eq_some_iff.1 hx).1

section
variable {w0 : Base} {s : Sim} {M : Mem} {w : World}

theorem MR.lt (h : MR w0 s M w) {id : Nat} {l : Loc} (hl : s.loc id = some l) : id < M.objs.length := by
  rcases Nat.lt_or_ge id M.objs.length with h1 | h1
  · exact h1
  · rw [h.dom id h1] at hl; cases hl

theorem MR.block_lt (h : MR w0 s M w) {id : Nat} {l : Loc} {b : Nat} (hl : s.loc id = some l) (hb : l.block = some b) : b < w.heap.size :=
  (h.obj id _ (List.getElem?_eq_getElem (h.lt hl))).block_lt hl hb

theorem MR.block_def (h : MR w0 s M w) {id : Nat} {l : Loc} {b : Nat} (hl : s.loc id = some l) (hb : l.block = some b) : w.heap[b]? ≠ some (.deferred (some [])) := by
  obtain ⟨x, h1, h2⟩ := (h.obj id _ (List.getElem?_eq_getElem (h.lt hl))).block_obj hl hb
  rw [h1]
  exact fun e => h2 (Option.some.inj e)

theorem MR.def_lt (h : MR w0 s M w) {d : Nat} (hd : s.defs d) : d < w.heap.size := (Array.getElem?_eq_some_iff.1 (h.defs d hd).2).1

theorem MR.fz_lt (h : MR w0 s M w) {b o : Nat} {v : Value} (hf : s.fz b o = some v) : b < w.heap.size := block_lt_of_cell (h.fz b o v hf).1

theorem MR.fz_new (h : MR w0 s M w) (o : Nat) : s.fz w.heap.size o = none := by
  cases hf : s.fz w.heap.size o with
  | none => rfl
  | some v => exact absurd (h.fz_lt hf) (Nat.lt_irrefl _)

theorem MR.drew (h : MR w0 s M w) : MR w0 s M w.drew :=
  ⟨h.below.drew, h.fz, h.dom, fun id o ho => (h.obj id o ho).keep (.refl s) rfl fun _ _ _ _ => ⟨rfl, fun _ => rfl⟩, h.inj, h.own, h.defs, h.old, h.held⟩

def Sim.setLoc (s : Sim) (id : Nat) (l : Loc) : Sim := { s with loc := fun i => if i = id then some l else s.loc i }

def Sim.freeze (s : Sim) (b : Nat) (f : Nat → Option Value) : Sim := { s with fz := fun b' o => if b' = b then f o else s.fz b' o }

theorem le_setLoc_new (h : MR w0 s M w) (l : Loc) : s.le (s.setLoc M.objs.length l) :=
  ⟨fun _ _ _ e => e, fun id l' e => ⟨l', by
    have := h.lt e
    simp only [Sim.setLoc]
    rw [if_neg (by omega)]; exact e, l'.le_refl⟩, fun _ h => h⟩

theorem le_freeze_new (h : MR w0 s M w) (f : Nat → Option Value) : s.le (s.freeze w.heap.size f) :=
  ⟨fun b o v e => by
    have := h.fz_lt e
    simp only [Sim.freeze]
    rw [if_neg (by omega)]; exact e, fun id l e => ⟨l, e, l.le_refl⟩, fun _ h => h⟩

theorem MR.held_lt (h : MR w0 s M w) {b : Nat} {o : Obj} (hb : w0.held b = some o) : b < w.heap.size := (Array.getElem?_eq_some_iff.1 (h.held b o hb).2.1).1

theorem MR.held_new (h : MR w0 s M w) : w0.held w.heap.size = none := by
  cases hb : w0.held w.heap.size with
  | none => rfl
  | some o => exact absurd (h.held_lt hb) (Nat.lt_irrefl _)

/-- A new block that nobody knows of. -/
theorem MR.alloc (h : MR w0 s M w) (o : Obj) : MR w0 s M (w.alloc o) :=
  ⟨h.below.alloc h.below.size o, fun b i v hf => ⟨by rw [World.cell?_alloc_lt (h := h.fz_lt hf)]; exact (h.fz b i v hf).1, (h.fz b i v hf).2⟩, h.dom,
    fun id x hx => (h.obj id x hx).keep (.refl s) rfl fun l b hl hb => ⟨heap_alloc_old w o b (h.block_lt hl hb), fun _ => rfl⟩, h.inj, h.own, fun d hd => ⟨(h.defs d hd).1, (heap_alloc_old w o d (h.def_lt hd)).trans (h.defs d hd).2⟩, h.old, fun b x hb => ⟨(h.held b x hb).1, (heap_alloc_old w o b (h.held_lt hb)).trans (h.held b x hb).2.1, (h.held b x hb).2.2⟩⟩

/-- A new block of which all is frozen. -/
theorem MR.allocFzP (h : MR w0 s M w) (c : Array Value) (e : TypeId) (p : Nat × Nat) (f : Nat → Option Value) (hf : ∀ o v, f o = some v → c[o]? = some v ∧ one v = true) :
    MR w0 (s.freeze w.heap.size f) M (w.alloc (.cells c e p)) := by
  refine ⟨h.below.alloc h.below.size _, fun b i v hb => ?_, h.dom, fun id x hx => (h.obj id x hx).keep (le_freeze_new h f) rfl fun l b hl hb => ⟨heap_alloc_old w _ b (h.block_lt hl hb), fun o => ?_⟩, h.inj, h.own, fun d hd => ⟨(h.defs d hd).1, (heap_alloc_old w _ d (h.def_lt hd)).trans (h.defs d hd).2⟩, fun b o v hb hv => h.old b o v hb ?_, fun b x hb => ⟨(h.held b x hb).1, (heap_alloc_old w _ b (h.held_lt hb)).trans (h.held b x hb).2.1, (h.held b x hb).2.2.1, fun y => ?_, (h.held b x hb).2.2.2.2⟩⟩
  · simp only [Sim.freeze] at hb
    split at hb
    · rename_i e1
      subst e1
      obtain ⟨h1, h2⟩ := hf i v hb
      exact ⟨by rw [cell_of_row _ _ i c e p (heap_alloc_new w _)]; exact h1, h2⟩
    · exact ⟨by rw [World.cell?_alloc_lt (h := h.fz_lt hb)]; exact (h.fz b i v hb).1, (h.fz b i v hb).2⟩
  · have := h.block_lt hl hb
    simp only [Sim.freeze]
    rw [if_neg (by omega)]
  · have := h.below.size
    simp only [Sim.freeze] at hv
    rwa [if_neg (by omega)] at hv
  · have := h.held_lt hb
    simp only [Sim.freeze]
    rw [if_neg (by omega)]
    exact (h.held b x hb).2.2.2.1 y

theorem MR.allocFz (h : MR w0 s M w) (c : Array Value) (e : TypeId) (f : Nat → Option Value) (hf : ∀ o v, f o = some v → c[o]? = some v ∧ one v = true) :
    MR w0 (s.freeze w.heap.size f) M (w.alloc (.cells c e)) := h.allocFzP c e (0, 0) f hf

theorem push_get {M : Mem} {o : AObj} {id : Nat} {x : AObj} (h : (M.push o).objs[id]? = some x) : (id = M.objs.length ∧ x = o) ∨ M.objs[id]? = some x := by
  simp only [Mem.push] at h
  rw [List.getElem?_append] at h
  split at h
  · exact .inr h
  · left
    rename_i hge
    have : id - M.objs.length = 0 := by
      rcases Nat.eq_zero_or_pos (id - M.objs.length) with e | e
      · exact e
      · rw [List.getElem?_eq_none (by simp only [List.length_cons, List.length_nil]; omega)] at h; cases h
    rw [this] at h
    simp only [List.getElem?_cons_zero, Option.some.injEq] at h
    exact ⟨by omega, h.symm⟩

/-- A new object, at a new block or at none. -/
theorem MR.pushObj (h : MR w0 s M w) (o : AObj) (l : Loc) (hb : ∀ b, l.block = some b → w0.heap.size ≤ b ∧ (∀ i l', s.loc i = some l' → l'.block ≠ some b) ∧ w0.held b = none)
    (ho : OR w0 (s.setLoc M.objs.length l) w M.objs.length o) : MR w0 (s.setLoc M.objs.length l) (M.push o) w := by
  refine ⟨h.below, h.fz, fun id hid => ?_, fun id x hx => ?_, fun i j l1 l2 b hi hj h1 h2 => ?_, fun i l1 b hi h1 => ?_, h.defs, h.old, fun b x hx => ⟨(h.held b x hx).1, (h.held b x hx).2.1, fun id l1 hl1 e => ?_, (h.held b x hx).2.2.2⟩⟩
  · simp only [Mem.push, List.length_append, List.length_cons, List.length_nil] at hid
    simp only [Sim.setLoc]
    rw [if_neg (by omega)]
    exact h.dom id (by omega)
  · rcases push_get hx with ⟨rfl, rfl⟩ | hx
    · exact ho
    · have hid : id < M.objs.length := (List.getElem?_eq_some_iff.1 hx).1
      exact (h.obj id x hx).keep (le_setLoc_new h l) (by simp only [Sim.setLoc]; rw [if_neg (by omega)]) fun _ _ _ _ => ⟨rfl, fun _ => rfl⟩
  · simp only [Sim.setLoc] at hi hj
    split at hi <;> split at hj
    · omega
    · simp only [Option.some.injEq] at hi; subst hi
      exact absurd h2 ((hb b h1).2.1 j l2 hj)
    · simp only [Option.some.injEq] at hj; subst hj
      exact absurd h1 ((hb b h2).2.1 i l1 hi)
    · exact h.inj i j l1 l2 b hi hj h1 h2
  · simp only [Sim.setLoc] at hi
    split at hi
    · simp only [Option.some.injEq] at hi; subst hi
      exact (hb b h1).1
    · exact h.own i l1 b hi h1
  · simp only [Sim.setLoc] at hl1
    split at hl1
    · simp only [Option.some.injEq] at hl1; subst hl1
      have := (hb b e).2.2
      rw [hx] at this; cases this
    · exact (h.held b x hx).2.2.1 id l1 hl1 e

theorem setLoc_self (s : Sim) (id : Nat) (l : Loc) : (s.setLoc id l).loc id = some l := by simp [Sim.setLoc]

/-- A new row; there may be room behind it. -/
theorem MR.newRowV (h : MR w0 s M w) (ver : Nat) (cs : List AV) (c : Array Value) (e : TypeId) (hl : cs.length ≤ c.size)
    (hv : ∀ (i : Nat) (x : AV) (v : Value), cs[i]? = some x → c[i]? = some v → VR s x v ∧ one v = true) :
    MR w0 (s.setLoc M.objs.length (.row ver (some w.heap.size) c.size)) (M.push (.row ver cs)) (w.alloc (.cells c e)) := by
  refine (h.alloc (.cells c e)).pushObj (.row ver cs) (.row ver (some w.heap.size) c.size) ?_ ?_
  · intro b hb
    simp only [Loc.block, Option.some.injEq] at hb
    subst hb
    exact ⟨h.below.size, fun i l' hl' hb' => absurd (h.block_lt hl' hb') (Nat.lt_irrefl _), h.held_new⟩
  · exact ⟨w.heap.size, c, e, setLoc_self _ _ _, heap_alloc_new w _, hl, fun i x v hx hv' => ⟨(hv i x v hx hv').1.mono (le_setLoc_new h _), (hv i x v hx hv').2⟩, fun o => h.fz_new o⟩

/-- A new row. -/
theorem MR.newRow (h : MR w0 s M w) (cs : List AV) (c : Array Value) (e : TypeId) (hl : c.size = cs.length)
    (hv : ∀ (i : Nat) (x : AV) (v : Value), cs[i]? = some x → c[i]? = some v → VR s x v ∧ one v = true) :
    MR w0 (s.setLoc M.objs.length (.row 0 (some w.heap.size) c.size)) (M.push (.row 0 cs)) (w.alloc (.cells c e)) :=
  h.newRowV 0 cs c e (by omega) hv

/-- A new map. -/
theorem MR.newMapV (h : MR w0 s M w) (es : List (AV × AV)) (mes : Array MapEntry) (clock : Nat) (hl : mes.size = es.length) (hc : clock = mes.size ∧ ∀ (i : Nat) (m : MapEntry), mes[i]? = some m → m.born = i)
    (hv : ∀ (i : Nat) (e : AV × AV) (m : MapEntry), es[i]? = some e → mes[i]? = some m → VR s e.1 m.key ∧ VR s e.2 m.val) :
    MR w0 (s.setLoc M.objs.length (.map w.heap.size)) (M.push (.map es)) (w.alloc (.map mes clock)) := by
  refine (h.alloc (.map mes clock)).pushObj (.map es) (.map w.heap.size) ?_ ?_
  · intro b hb
    simp only [Loc.block, Option.some.injEq] at hb
    subst hb
    exact ⟨h.below.size, fun i l' hl' hb' => absurd (h.block_lt hl' hb') (Nat.lt_irrefl _), h.held_new⟩
  · exact ⟨w.heap.size, mes, clock, setLoc_self _ _ _, heap_alloc_new w _, hl, hc, fun i e m he hm => ⟨(hv i e m he hm).1.mono (le_setLoc_new h _), (hv i e m he hm).2.mono (le_setLoc_new h _)⟩⟩

theorem MR.newMap (h : MR w0 s M w) : MR w0 (s.setLoc M.objs.length (.map w.heap.size)) (M.push (.map [])) (w.alloc (.map #[] 0)) :=
  h.newMapV [] #[] 0 rfl ⟨rfl, by simp⟩ (fun i e m he => by simp at he)

/-- A new iterator over a map. -/
theorem MR.newIter (h : MR w0 s M w) {mid mb : Nat} {n : Nat} (hm : s.loc mid = some (.map mb)) (h1 : n ≤ 1) :
    MR w0 (s.setLoc M.objs.length (.row 0 (some w.heap.size) 0)) (M.push (.iter mid n false)) (w.alloc (.mapIter (some mb) n #[] n)) := by
  refine (h.alloc _).pushObj (.iter mid n false) (.row 0 (some w.heap.size) 0) ?_ ?_
  · intro b hb
    simp only [Loc.block, Option.some.injEq] at hb
    subst hb
    exact ⟨h.below.size, fun i l' hl' hb' => absurd (h.block_lt hl' hb') (Nat.lt_irrefl _), h.held_new⟩
  · have := h.lt hm
    exact ⟨w.heap.size, mb, setLoc_self _ _ _, heap_alloc_new w _, by simp only [Sim.setLoc]; rw [if_neg (by omega)]; exact hm, h1⟩

/-- A new iterator over a string. -/
theorem MR.newSiter (h : MR w0 s M w) (x : ByteArray) : MR w0 (s.setLoc M.objs.length (.row 0 (some w.heap.size) 0)) (M.push (.siter x 0)) (w.alloc (.stringIter x 0)) := by
  refine (h.alloc _).pushObj (.siter x 0) (.row 0 (some w.heap.size) 0) ?_ ?_
  · intro b hb
    simp only [Loc.block, Option.some.injEq] at hb
    subst hb
    exact ⟨h.below.size, fun i l' hl' hb' => absurd (h.block_lt hl' hb') (Nat.lt_irrefl _), h.held_new⟩
  · exact ⟨w.heap.size, setLoc_self _ _ _, heap_alloc_new w _⟩

/-- A nil slice that may be appended to. -/
theorem MR.newTip (h : MR w0 s M w) (k : Nat) : MR w0 (s.setLoc M.objs.length (.tip 0 k none 0)) (M.push (.tip 0)) w :=
  h.pushObj (.tip 0) (.tip 0 k none 0) (fun b hb => by cases hb) ⟨k, none, 0, setLoc_self _ _ _, rfl, rfl⟩

theorem set_get {α : Type} {l : List α} {id i : Nat} {o x : α} (h : (l.set id o)[i]? = some x) : (i = id ∧ x = o) ∨ (i ≠ id ∧ l[i]? = some x) := by
  rw [List.getElem?_set] at h
  split at h
  · rename_i e
    split at h
    · simp only [Option.some.injEq] at h; exact .inl ⟨e.symm, h.symm⟩
    · cases h
  · rename_i e; exact .inr ⟨fun e' => e e'.symm, h⟩

/-- One object is written, in a block of its own; what is frozen stays. -/
theorem MR.setObj (h : MR w0 s M w) {id : Nat} (hid : id < M.objs.length) (o : AObj) (l : Loc) {l0 : Loc} (hl0 : s.loc id = some l0) (hle : l0.le l) (w' : World) (f : Nat → Nat → Option Value)
    (hf : ∀ b o v, s.fz b o = some v → f b o = some v) (hf' : ∀ b o, l.block ≠ some b → f b o = s.fz b o)
    (hw : ∀ b, l.block ≠ some b → b < w.heap.size → w'.heap[b]? = w.heap[b]?) (hb : Below w0.heap.size w0 w')
    (hlb : ∀ b, l.block = some b → w0.heap.size ≤ b ∧ (l0.block = some b ∨ ((∀ i l', s.loc i = some l' → l'.block ≠ some b) ∧ w.heap[b]? ≠ some (.deferred (some [])) ∧ w0.held b = none)))
    (hfz : ∀ b o v, l.block = some b → f b o = some v → w'.cell? ⟨b, o, none⟩ = some v ∧ one v = true)
    (ho : OR w0 { fz := f, loc := (s.setLoc id l).loc, defs := s.defs } w' id o) (bad : Option Nat) :
    s.le { fz := f, loc := (s.setLoc id l).loc, defs := s.defs } ∧ MR w0 { fz := f, loc := (s.setLoc id l).loc, defs := s.defs } { objs := M.objs.set id o, bad := bad } w' := by
  have hle' : s.le { fz := f, loc := (s.setLoc id l).loc, defs := s.defs } := ⟨hf, fun i l1 h1 => by
    by_cases e : i = id
    · subst e
      rw [hl0] at h1; cases h1
      exact ⟨l, by simp [Sim.setLoc], hle⟩
    · exact ⟨l1, by simp [Sim.setLoc, e, h1], l1.le_refl⟩, fun _ h => h⟩
  refine ⟨hle', hb, fun b o v hv => ?_, fun i hi => ?_, fun i x hx => ?_, fun i j l1 l2 b hi hj h1 h2 => ?_, fun i l1 b hi h1 => ?_, fun d hd => ⟨(h.defs d hd).1, ?_⟩, fun b o v hb hv => h.old b o v hb ?_, fun b x hx => ?_⟩
  · by_cases e : l.block = some b
    · exact hfz b o v e hv
    · simp only at hv
      rw [hf' b o e] at hv
      obtain ⟨h1, h2⟩ := h.fz b o v hv
      exact ⟨by rw [World.cell?_of_block (w := w) (hw b e (h.fz_lt hv))]; exact h1, h2⟩
  · simp only [List.length_set] at hi
    simp only [Sim.setLoc]
    rw [if_neg (by omega)]
    exact h.dom i hi
  · rcases set_get hx with ⟨rfl, rfl⟩ | ⟨hne, hx⟩
    · exact ho
    · refine (h.obj i x hx).keep hle' (by simp [Sim.setLoc, hne]) fun l1 b h1 h2 => ?_
      have hne' : l.block ≠ some b := by
        intro e
        rcases (hlb b e).2 with e2 | e2
        · exact hne (h.inj i id l1 l0 b h1 hl0 h2 e2)
        · exact e2.1 i l1 h1 h2
      exact ⟨hw b hne' (h.block_lt h1 h2), fun o => hf' b o hne'⟩
  · simp only [Sim.setLoc] at hi hj
    split at hi <;> split at hj
    · omega
    · simp only [Option.some.injEq] at hi; subst hi
      rename_i ei ej
      rcases (hlb b h1).2 with e2 | e2
      · exact ei.trans (h.inj j id l2 l0 b hj hl0 h2 e2).symm
      · exact absurd h2 (e2.1 j l2 hj)
    · simp only [Option.some.injEq] at hj; subst hj
      rename_i ei ej
      rcases (hlb b h2).2 with e2 | e2
      · exact (h.inj i id l1 l0 b hi hl0 h1 e2).trans ej.symm
      · exact absurd h1 (e2.1 i l1 hi)
    · exact h.inj i j l1 l2 b hi hj h1 h2
  · simp only [Sim.setLoc] at hi
    split at hi
    · simp only [Option.some.injEq] at hi; subst hi
      exact (hlb b h1).1
    · exact h.own i l1 b hi h1
  · have hne : l.block ≠ some d := by
      intro e
      rcases (hlb d e).2 with e2 | e2
      · exact h.block_def hl0 e2 (h.defs d hd).2
      · exact e2.2.1 (h.defs d hd).2
    exact (hw d hne (h.def_lt hd)).trans (h.defs d hd).2
  · rw [← hf' b o (fun e => by have := (hlb b e).1; omega)]
    exact hv
  · obtain ⟨k1, k2, k3, k4, k5⟩ := h.held b x hx
    have hne : l.block ≠ some b := fun e => by
      rcases (hlb b e).2 with e2 | e2
      · exact k3 id l0 hl0 e2
      · rw [hx] at e2; cases e2.2.2
    refine ⟨k1, (hw b hne (h.held_lt hx)).trans k2, fun i l1 hi e => ?_, fun y => (hf' b y hne).trans (k4 y), k5⟩
    simp only [Sim.setLoc] at hi
    split at hi
    · simp only [Option.some.injEq] at hi; subst hi; exact hne e
    · exact k3 i l1 hi e

/-- What is dropped is forgotten. -/
theorem MR.cut (h : MR w0 s M w) (n : Nat) (bad : Option Nat) (hn : ∀ i o, i < n → M.objs[i]? = some o → OR w0 (s.cut n) w i o) : MR w0 (s.cut n) { objs := M.objs.take n, bad := bad } w := by
  refine ⟨h.below, h.fz, fun id hid => ?_, fun id o ho => ?_, fun i j l l' b hi hj => ?_, fun i l b hi => ?_, h.defs, h.old, fun b x hx => ⟨(h.held b x hx).1, (h.held b x hx).2.1, fun id l hl => ?_, (h.held b x hx).2.2.2⟩⟩
  · simp only [Sim.cut]
    split
    · rename_i h1
      simp only [List.length_take] at hid
      exact h.dom id (by omega)
    · rfl
  · simp only [List.getElem?_take] at ho
    split at ho
    · rename_i h1; exact hn id o h1 ho
    · cases ho
  · simp only [Sim.cut] at hi hj
    split at hi <;> split at hj <;> first | (cases hi; done) | (cases hj; done) | exact h.inj i j l l' b hi hj
  · simp only [Sim.cut] at hi
    split at hi
    · exact h.own i l b hi
    · cases hi
  · simp only [Sim.cut] at hl
    split at hl
    · exact (h.held b x hx).2.2.1 id l hl
    · cases hl
end

theorem OR.cut {w0 : Base} {s : Sim} {w : World} {id : Nat} {o : AObj} (h : OR w0 s w id o) {n : Nat} (hid : id < n) (hu : o.under n = true) : OR w0 (s.cut n) w id o := by
  have hl : ∀ l, s.loc id = some l → (s.cut n).loc id = some l := fun l e => by simp [Sim.cut, hid, e]
  cases o with
  | row ver cs =>
    obtain ⟨b, c, e, h1, h2, h3, h4, h5⟩ := h
    exact ⟨b, c, e, hl _ h1, h2, h3, fun i x v hx hv => ⟨(h4 i x v hx hv).1.cut (underAll_get hu hx), (h4 i x v hx hv).2⟩, h5⟩
  | map es =>
    obtain ⟨b, mes, clock, h1, h2, h3, h5, h4⟩ := h
    refine ⟨b, mes, clock, hl _ h1, h2, h3, h5, fun i e m he hm => ?_⟩
    have := List.all_eq_true.1 hu e (List.mem_of_getElem? he)
    simp only [Bool.and_eq_true] at this
    exact ⟨(h4 i e m he hm).1.cut this.1, (h4 i e m he hm).2.cut this.2⟩
  | tip n' =>
    obtain ⟨k, a, cap, h1, h2⟩ := h
    exact ⟨k, a, cap, hl _ h1, h2⟩
  | dead =>
    obtain ⟨ver, n, h1⟩ := h
    exact ⟨ver, n, hl _ h1⟩
  | loop ps as body env st =>
    obtain ⟨l, r, nt, h1, h2, q1, q2, q3, q4, q5, q6, q7, q8⟩ := h
    exact ⟨l, r, nt, hl _ h1, h2, q1, q2, q3, q4, q5, q6, q7.cut hu, q8⟩
  | gone =>
    obtain ⟨l, r, h1, h2⟩ := h
    exact ⟨l, r, hl _ h1, h2⟩
  | iter mid m seen =>
    obtain ⟨b, mb, h1, h2, h3, h4⟩ := h
    simp only [AObj.under, decide_eq_true_eq] at hu
    exact ⟨b, mb, hl _ h1, h2, by simp [Sim.cut, hu, h3], h4⟩
  | siter x pos =>
    obtain ⟨b, h1, h2⟩ := h
    exact ⟨b, hl _ h1, h2⟩

section
variable {w0 : Base} {s : Sim} {M : Mem} {w : World}

theorem heap_put_ne {w : World} {r k : Nat} {o : Obj} (h : k ≠ r) : (w.putObj r o).heap[k]? = w.heap[k]? := World.putObj_heap_other h

theorem below_putObj (h : Below w0.heap.size w0 w) {r : Nat} (hr : w0.heap.size ≤ r) (o : Obj) : Below w0.heap.size w0 (w.putObj r o) :=
  ⟨h.os, h.tape, h.output, by simpa [World.putObj] using h.size, fun k hk => by rw [heap_put_ne (by omega)]; exact h.block k hk⟩

theorem no_cell {w : World} {b : Nat} {x : Obj} (h : w.heap[b]? = some x) (hx : ∀ c e p, x ≠ .cells c e p) (o : Nat) : w.cell? ⟨b, o, none⟩ = none := by
  unfold World.cell?
  simp only [h]
  cases x <;> first | rfl | (exact absurd rfl (hx _ _ _))

/-- A loop's record is turned. -/
theorem MR.markLoop (h : MR w0 s M w) {id l : Nat} {r r' : Loop} (hl : s.loc id = some (.loop l)) (hr : w.heap[l]? = some (.loop r)) (o : AObj) (ho : OR w0 s (w.putObj l (.loop r')) id o) :
    MR w0 s (M.mark id o) (w.putObj l (.loop r')) := by
  have hs : ({ fz := s.fz, loc := (s.setLoc id (.loop l)).loc, defs := s.defs } : Sim) = s := by
    cases s with
    | mk fz loc defs =>
      simp only [Sim.setLoc, Sim.mk.injEq, true_and, and_true]
      funext i
      split
      · rename_i e; subst e; exact hl.symm
      · rfl
  have := h.setObj (h.lt hl) o (.loop l) hl (Loc.le_refl _) (w.putObj l (.loop r')) s.fz (fun _ _ _ h => h) (fun _ _ _ => rfl)
    (fun b hb _ => heap_put_ne (fun e => hb (by rw [e]; rfl))) (below_putObj h.below (h.own id _ l hl rfl) _)
    (fun b hb => by
      cases hb
      exact ⟨h.own id _ l hl rfl, .inl rfl⟩)
    (fun b i v hb hv => by
      cases hb
      have h1 := (h.fz _ _ _ hv).1
      rw [no_cell hr (by simp)] at h1
      cases h1)
    (by rw [hs]; exact ho) M.bad
  rw [hs] at this
  exact this.2

/-- A new block for deferred calls. -/
theorem MR.newDefs (h : MR w0 s M w) : s.le { s with defs := fun d => s.defs d ∨ d = w.heap.size } ∧ MR w0 { s with defs := fun d => s.defs d ∨ d = w.heap.size } M (w.alloc (.deferred (some []))) ∧ ¬ s.defs w.heap.size := by
  have h1 := h.alloc (.deferred (some []))
  refine ⟨⟨fun _ _ _ h => h, fun _ l h => ⟨l, h, l.le_refl⟩, fun _ h => .inl h⟩, ⟨h1.below, h1.fz, h1.dom, fun id o ho => (h1.obj id o ho).keep ⟨fun _ _ _ h => h, fun _ l h => ⟨l, h, l.le_refl⟩, fun _ h => .inl h⟩ rfl fun _ _ _ _ => ⟨rfl, fun _ => rfl⟩, h1.inj, h1.own, fun d hd => ?_, h1.old, fun b x hx => ⟨(h1.held b x hx).1, (h1.held b x hx).2.1, (h1.held b x hx).2.2.1, (h1.held b x hx).2.2.2.1, fun hd => ?_⟩⟩, fun hd => absurd (h.def_lt hd) (Nat.lt_irrefl _)⟩
  rcases hd with hd | rfl
  · exact h1.defs d hd
  · exact ⟨h.below.size, heap_alloc_new w _⟩
  rcases hd with hd | rfl
  · exact (h1.held b x hx).2.2.2.2 hd
  · rw [h.held_new] at hx; cases hx

/-- A block for deferred calls is shut. -/
theorem MR.shut (h : MR w0 s M w) {d : Nat} (hd : s.defs d) : MR w0 { s with defs := fun e => s.defs e ∧ e ≠ d } M (w.putObj d (.deferred none)) := by
  obtain ⟨h0, h1⟩ := h.defs d hd
  have hne : ∀ id l b, s.loc id = some l → l.block = some b → b ≠ d := fun id l b hl hb e => h.block_def hl hb (by rw [e]; exact h1)
  refine ⟨below_putObj h.below h0 _, fun b i v hv => ?_, h.dom, fun id o ho => (h.obj id o ho).keep0 ⟨fun _ _ _ h => h, fun _ l h => ⟨l, h, l.le_refl⟩⟩ rfl fun l b hl hb => ⟨heap_put_ne (hne id l b hl hb), fun _ => rfl⟩, h.inj, h.own, fun e he => ⟨(h.defs e he.1).1, (heap_put_ne he.2).trans (h.defs e he.1).2⟩, h.old, fun b x hx => ⟨(h.held b x hx).1, (heap_put_ne (fun e => (h.held b x hx).2.2.2.2 (by rw [e]; exact hd))).trans (h.held b x hx).2.1, (h.held b x hx).2.2.1, (h.held b x hx).2.2.2.1, fun e => (h.held b x hx).2.2.2.2 e.1⟩⟩
  obtain ⟨h2, h3⟩ := h.fz b i v hv
  refine ⟨?_, h3⟩
  have : b ≠ d := by
    rintro rfl
    rw [no_cell h1 (by simp)] at h2
    cases h2
  rw [World.cell?_of_block (w := w) (heap_put_ne this)]
  exact h2
end

end Go.Am
namespace Go.Am
set_option linter.all false
open Go

structure Keeps (M M' : Mem) : Prop where
  len : M.objs.length ≤ M'.objs.length
  obj : ∀ (i : Nat) (o : AObj), i < M.objs.length → M'.objs[i]? = some o → (∃ o0, M.objs[i]? = some o0 ∧ ∀ n, i < n → o0.under n = true → o.under n = true) ∨ o.under (i + 1) = true ∨ ∃ b, M'.bad = some b ∧ b ≤ i
  bad : ∀ b, M.bad = some b → ∃ b', M'.bad = some b' ∧ b' ≤ b

theorem Keeps.refl (M : Mem) : Keeps M M := ⟨Nat.le_refl _, fun _ o _ h => .inl ⟨o, h, fun _ _ h => h⟩, fun b h => ⟨b, h, Nat.le_refl _⟩⟩

theorem Keeps.trans {a b c : Mem} (h : Keeps a b) (h' : Keeps b c) : Keeps a c := by
  refine ⟨Nat.le_trans h.len h'.len, fun i o hi ho => ?_, fun x hx => ?_⟩
  · rcases h'.obj i o (Nat.lt_of_lt_of_le hi h.len) ho with ⟨o1, h1, hu⟩ | h1 | h1
    · rcases h.obj i o1 hi h1 with ⟨o2, h2, hu2⟩ | h2 | ⟨x, h2, h3⟩
      · exact .inl ⟨o2, h2, fun n hlt hn => hu n hlt (hu2 n hlt hn)⟩
      · exact .inr (.inl (hu _ (Nat.lt_succ_self _) h2))
      · obtain ⟨y, h4, h5⟩ := h'.bad x h2
        exact .inr (.inr ⟨y, h4, Nat.le_trans h5 h3⟩)
    · exact .inr (.inl h1)
    · exact .inr (.inr h1)
  · obtain ⟨y, h1, h2⟩ := h.bad x hx
    obtain ⟨z, h3, h4⟩ := h'.bad y h1
    exact ⟨z, h3, Nat.le_trans h4 h2⟩

theorem minBad_left (a : Option Nat) (b x : Nat) (h : a = some x) : ∃ y, minBad a (some b) = some y ∧ y ≤ x := by
  subst h; exact ⟨min x b, rfl, Nat.min_le_left _ _⟩

theorem minBad_right (a : Option Nat) (b : Nat) : ∃ y, minBad a (some b) = some y ∧ y ≤ b := by
  cases a with
  | none => exact ⟨b, rfl, Nat.le_refl _⟩
  | some x => exact ⟨min x b, rfl, Nat.min_le_right _ _⟩

theorem minBad_left' (a b : Option Nat) (x : Nat) (h : a = some x) : ∃ y, minBad a b = some y ∧ y ≤ x := by
  cases b with
  | none => subst h; exact ⟨x, rfl, Nat.le_refl _⟩
  | some b => exact minBad_left a b x h

theorem Keeps.push (M : Mem) (o : AObj) : Keeps M (M.push o) := by
  refine ⟨by simp [Mem.push], fun i x hi hx => .inl ⟨x, ?_, fun _ _ h => h⟩, fun b hb => ?_⟩
  · simp only [Mem.push] at hx
    rwa [List.getElem?_append_left hi] at hx
  · simp only [Mem.push]
    split
    · exact ⟨b, hb, Nat.le_refl _⟩
    · exact minBad_left _ _ _ hb

theorem Keeps.put (M : Mem) (id : Nat) (o : AObj) : Keeps M (M.put id o) := by
  refine ⟨by simp [Mem.put], fun i x hi hx => ?_, fun b hb => ?_⟩
  · simp only [Mem.put] at hx ⊢
    rw [List.getElem?_set] at hx
    split at hx
    · rename_i e
      subst e
      split at hx
      · simp only [Option.some.injEq] at hx
        subst hx
        by_cases hu : o.under (id + 1) = true
        · exact .inr (.inl hu)
        · rw [if_neg hu]
          exact .inr (.inr (minBad_right _ _))
      · rename_i hne; exact absurd hi hne
    · exact .inl ⟨_, hx, fun _ _ h => h⟩
  · simp only [Mem.put]
    split
    · exact ⟨b, hb, Nat.le_refl _⟩
    · exact minBad_left _ _ _ hb

theorem underAll_set {n : Nat} {xs : List AV} (hx : AV.underAll n xs = true) : ∀ {cs : List AV} {off : Nat}, AV.underAll n cs = true → AV.underAll n (setCells cs off xs) = true := by
  have app : ∀ {a b : List AV}, AV.underAll n a = true → AV.underAll n b = true → AV.underAll n (a ++ b) = true := by
    intro a
    induction a with
    | nil => intro b _ h; exact h
    | cons x a ih =>
      intro b h h2
      simp only [AV.underAll, Bool.and_eq_true, List.cons_append] at h ⊢
      exact ⟨h.1, ih h.2 h2⟩
  have take : ∀ {a : List AV} {k : Nat}, AV.underAll n a = true → AV.underAll n (a.take k) = true := by
    intro a
    induction a with
    | nil => intro k h; simp [AV.underAll]
    | cons x a ih =>
      intro k h
      cases k with
      | zero => rfl
      | succ k =>
        simp only [AV.underAll, Bool.and_eq_true, List.take_succ_cons] at h ⊢
        exact ⟨h.1, ih h.2⟩
  have drop : ∀ {a : List AV} {k : Nat}, AV.underAll n a = true → AV.underAll n (a.drop k) = true := by
    intro a
    induction a with
    | nil => intro k h; simp [AV.underAll]
    | cons x a ih =>
      intro k h
      cases k with
      | zero => exact h
      | succ k =>
        simp only [AV.underAll, Bool.and_eq_true, List.drop_succ_cons] at h ⊢
        exact ih h.2
  intro cs off h
  exact app (app (take h) hx) (drop h)

theorem underAll_up {n m : Nat} (h : n ≤ m) : ∀ {xs : List AV}, AV.underAll n xs = true → AV.underAll m xs = true := by
  have one : ∀ (x : AV), AV.under n x = true → AV.under m x = true := by
    intro x
    refine AV.rec (motive_1 := fun x => AV.under n x = true → AV.under m x = true) (motive_2 := fun xs => AV.underAll n xs = true → AV.underAll m xs = true) ?_ ?_ ?_ ?_ ?_ ?_ ?_ ?_ ?_ ?_ ?_ ?_ ?_ ?_ ?_ ?_ ?_ ?_ ?_ x
    all_goals first
      | (intros; simp [AV.under]; done)
      | skip
    · intro g k xs ih h
      cases g <;> simp only [AV.under, Bool.and_eq_true, decide_eq_true_eq] at h ⊢
      all_goals first | exact ih h | exact ⟨by omega, ih h.2⟩
    all_goals first
      | (intro a b c d h; simp only [AV.under, decide_eq_true_eq] at h ⊢; omega)
      | (intro a b c h; simp only [AV.under, decide_eq_true_eq] at h ⊢; omega)
      | (intro a h; simp only [AV.under, decide_eq_true_eq] at h ⊢; omega)
      | (intro x ih h; simp only [AV.under] at h ⊢; exact ih h)
      | (intro f xs ys ih1 ih2 h; simp only [AV.under, Bool.and_eq_true] at h ⊢; exact ⟨ih1 h.1, ih2 h.2⟩)
      | (intro t v ih h; simp only [AV.under] at h ⊢; exact ih h)
      | (intro _; rfl)
      | (intro x xs ih1 ih2 h; simp only [AV.underAll, Bool.and_eq_true] at h ⊢; exact ⟨ih1 h.1, ih2 h.2⟩)
  intro xs
  induction xs with
  | nil => intro _; rfl
  | cons x xs ih => intro h; simp only [AV.underAll, Bool.and_eq_true] at h ⊢; exact ⟨one x h.1, ih h.2⟩

theorem Keeps.putC (M : Mem) (id ver off : Nat) (cs xs : List AV) (h0 : M.objs[id]? = some (.row ver cs)) : Keeps M (M.putC id (.row ver (setCells cs off xs)) xs) := by
  refine ⟨by simp [Mem.putC], fun i x hi hx => ?_, fun b hb => ?_⟩
  · simp only [Mem.putC] at hx ⊢
    rw [List.getElem?_set] at hx
    split at hx
    · rename_i e
      subst e
      split at hx
      · simp only [Option.some.injEq] at hx
        subst hx
        by_cases hu : AV.underAll (id + 1) xs = true
        · refine .inl ⟨_, h0, fun n hn h => ?_⟩
          exact underAll_set (underAll_up (by omega) hu) h
        · rw [if_neg hu]
          exact .inr (.inr (minBad_right _ _))
      · rename_i hne; exact absurd hi hne
    · exact .inl ⟨_, hx, fun _ _ h => h⟩
  · simp only [Mem.putC]
    split
    · exact ⟨b, hb, Nat.le_refl _⟩
    · exact minBad_left _ _ _ hb

theorem Keeps.mark (M : Mem) (id : Nat) (o o0 : AObj) (h0 : M.objs[id]? = some o0) (hu : ∀ n, o0.under n = true → o.under n = true) : Keeps M (M.mark id o) := by
  refine ⟨by simp [Mem.mark], fun i x hi hx => ?_, fun b hb => ⟨b, hb, Nat.le_refl _⟩⟩
  simp only [Mem.mark] at hx
  rw [List.getElem?_set] at hx
  split at hx
  · rename_i e
    subst e
    split at hx
    · simp only [Option.some.injEq] at hx
      subst hx
      exact .inl ⟨o0, h0, fun n _ => hu n⟩
    · rename_i hne; exact absurd hi hne
  · exact .inl ⟨_, hx, fun _ _ h => h⟩

theorem Keeps.newRow (M : Mem) (cs : List AV) : Keeps M (M.newRow cs).2 := Keeps.push _ _

theorem aAppend_keeps {M M' : Mem} {k bytes hint : Nat} {x v : AV} {ys : List AV} (h : aAppend M k bytes x ys hint = some (v, M')) : Keeps M M' := by
  unfold aAppend at h
  repeat' split at h
  all_goals first
    | (cases h; done)
    | (simp only [Option.some.injEq, Prod.mk.injEq] at h; obtain ⟨_, rfl⟩ := h; first | exact Keeps.refl _ | exact Keeps.push _ _ | exact Keeps.put _ _ _)

theorem store_keeps {M M' : Mem} {k : Nat} {a x : AV} (h : M.store k a x = some M') : Keeps M M' := by
  unfold Mem.store at h
  repeat' split at h
  all_goals first
    | (cases h; done)
    | (simp only [Option.some.injEq] at h; subst h; rename_i hid hc; rw [hc.1]; exact Keeps.putC _ _ _ _ _ _ hid)

theorem popTo_keeps {M0 M : Mem} (h : Keeps M0 M) (env : Env) : Keeps M0 (popTo M0.objs.length M0.bad env M) := by
  unfold popTo
  split
  · rename_i hp
    simp only [Bool.and_eq_true] at hp
    refine ⟨by simp only [List.length_take]; have := h.len; omega, fun i o hi ho => ?_, fun b hb => ⟨b, hb, Nat.le_refl _⟩⟩
    simp only [List.getElem?_take] at ho
    rw [if_pos hi] at ho
    rcases h.obj i o hi ho with h1 | h1 | ⟨b, h1, h2⟩
    · exact .inl h1
    · exact .inr (.inl h1)
    · have hp2 := hp.2
      rw [h1] at hp2
      simp only [badOk, decide_eq_true_eq] at hp2
      omega
  · exact h

theorem iter_keeps {f : Env → Mem → Res} (hf : ∀ env M x env' M', f env M = some (x, env', M') → Keeps M M') {keep : List Nat} {pop : Option (Nat × Option Nat)} {M0 : Mem}
    (hp : pop = none ∨ pop = some (M0.objs.length, M0.bad)) : ∀ (m : Nat) {env env' : Env} {M M' : Mem} {x : X}, Keeps M0 M → iter f keep pop m env M = some (x, env', M') → Keeps M0 M' := by
  intro m
  induction m with
  | zero => intro env env' M M' x _ h; cases h
  | succ m ih =>
    intro env env' M M' x h0 h
    have h1 : Keeps M0 (popAt pop (env.keep keep) M) := by
      rcases hp with rfl | rfl
      · exact h0
      · exact popTo_keeps h0 _
    simp only [iter] at h
    split at h
    · rename_i env1 M1 hr
      exact ih (h1.trans (hf _ _ _ _ _ hr)) h
    · exact h1.trans (hf _ _ _ _ _ h)

theorem aClear_keeps {M M' : Mem} {k : Nat} {zero : List AV} {x : AV} (h : aClear M k zero x = some M') : Keeps M M' := by
  unfold aClear at h
  repeat' split at h
  all_goals first
    | (cases h; done)
    | (simp only [Option.some.injEq] at h; subst h; first | exact Keeps.refl _ | exact Keeps.put _ _ _)

theorem aCopy_keeps {M M' : Mem} {k : Nat} {x v : AV} {ys : List AV} (h : aCopy M k x ys = some (v, M')) : Keeps M M' := by
  unfold aCopy at h
  repeat' split at h
  all_goals first
    | (cases h; done)
    | (simp only [Option.some.injEq, Prod.mk.injEq] at h; obtain ⟨_, rfl⟩ := h; first | exact Keeps.refl _ | exact Keeps.put _ _ _)

theorem aRange_keeps {M M' : Mem} {b : Bool} {x v : AV} (h : aRange M b x = some (v, M')) : Keeps M M' := by
  unfold aRange at h
  repeat' split at h
  all_goals first
    | (cases h; done)
    | (simp only [Option.some.injEq, Prod.mk.injEq] at h; obtain ⟨_, rfl⟩ := h; exact Keeps.push _ _)

theorem aNext_keeps {M M' : Mem} {b : Bool} {x v : AV} (h : aNext M b x = some (v, M')) : Keeps M M' := by
  unfold aNext at h
  repeat' split at h
  all_goals first
    | (cases h; done)
    | (simp only [Option.some.injEq, Prod.mk.injEq] at h; obtain ⟨_, rfl⟩ := h; first | exact Keeps.refl _ | exact Keeps.put _ _ _)

theorem aCloneMap_keeps {M M' : Mem} {x v : AV} (h : aCloneMap M x = some (v, M')) : Keeps M M' := by
  unfold aCloneMap at h
  repeat' split at h
  all_goals first
    | (cases h; done)
    | (simp only [Option.some.injEq, Prod.mk.injEq] at h; obtain ⟨_, rfl⟩ := h; exact Keeps.push _ _)

theorem aMakeCap_keeps {M M' : Mem} {k bytes : Nat} {zero : List AV} {x y v : AV} (h : aMakeCap M k bytes zero x y = some (v, M')) : Keeps M M' := by
  unfold aMakeCap at h
  repeat' split at h
  all_goals first
    | (cases h; done)
    | (simp only [Option.some.injEq, Prod.mk.injEq] at h; obtain ⟨_, rfl⟩ := h; exact Keeps.push _ _)

theorem valF_keeps {M M' : Mem} {x : Option AV} {v : AV} (h : valF x M = some (v, M')) : Keeps M M' := by
  unfold valF at h
  split at h
  · cases h
  · simp only [Option.some.injEq, Prod.mk.injEq] at h; obtain ⟨_, rfl⟩ := h; exact Keeps.refl _

theorem aFn_keeps {M M' : Mem} {o : FOp} {xs : List AV} {v : AV} (h : aFn o xs M = some (v, M')) : Keeps M M' := by
  unfold aFn at h
  repeat' split at h
  all_goals first
    | (cases h; done)
    | exact valF_keeps h
    | exact aCopy_keeps h
    | exact aRange_keeps h
    | exact aNext_keeps h
    | exact aCloneMap_keeps h
    | exact aMakeCap_keeps h
    | (simp only [Option.some.injEq, Prod.mk.injEq] at h; obtain ⟨_, rfl⟩ := h; first | exact Keeps.refl _ | exact Keeps.push _ _)

section
variable {call : Nat → List AV → Mem → Option (AV × Mem)} (hc : ∀ f args M r M', call f args M = some (r, M') → Keeps M M')
include hc

theorem evOp_keeps {L : Env} {M M' : Mem} {v : AV} {o : IOp} (h : evOp call L M o = some (v, M')) : Keeps M M' := by
  cases o
  all_goals
    simp only [evOp] at h
    repeat' split at h
  all_goals first
    | (cases h; done)
    | (simp only [Option.some.injEq, Prod.mk.injEq] at h; obtain ⟨_, rfl⟩ := h; first | exact Keeps.refl _ | exact Keeps.push _ _ | exact Keeps.put _ _ _ | exact Keeps.newRow _ _ | (exact store_keeps (by assumption)) | (exact aClear_keeps (by assumption)))
    | exact hc _ _ _ _ _ h
    | exact aAppend_keeps h
    | exact aFn_keeps h
    | (simp only [Option.some.injEq] at h; rw [← (Prod.mk.inj h).2]; exact Keeps.newRow _ _)
    | (simp only [Mem.newRow, Option.some.injEq, Prod.mk.injEq] at h; obtain ⟨_, rfl⟩ := h; exact Keeps.push _ _)

theorem evOps_keeps : ∀ {os : List IOper} {L L' : Env} {M M' : Mem}, evOps call os L M = some (L', M') → Keeps M M' := by
  intro os
  induction os with
  | nil => intro L L' M M' h; simp only [evOps, Option.some.injEq, Prod.mk.injEq] at h; obtain ⟨_, rfl⟩ := h; exact Keeps.refl _
  | cons o os ih =>
    intro L L' M M' h
    simp only [evOps] at h
    split at h
    · cases h
    · exact ih h
    · split at h
      · cases h
      · rename_i v M1 h1
        exact (evOp_keeps hc h1).trans (ih h)

theorem evOpsD_keeps : ∀ {os : List (IOper × Nat × Nat)} {L L' : Env} {M M' : Mem} {ms ms' : List Mem} {tr : List (Env × AV × Bool)}, evOpsD call os L M ms = some (L', M', ms', tr) → Keeps M M' := by
  intro os
  induction os with
  | nil => intro L L' M M' ms ms' tr h; simp only [evOpsD, Option.some.injEq, Prod.mk.injEq] at h; obtain ⟨_, rfl, _⟩ := h; exact Keeps.refl _
  | cons o os ih =>
    intro L L' M M' ms ms' tr h
    obtain ⟨o, q⟩ := o
    simp only [evOpsD] at h
    split at h
    · cases h
    · split at h
      · cases h
      · rename_i h1
        simp only [Option.some.injEq, Prod.mk.injEq] at h
        obtain ⟨_, rfl, _⟩ := h
        exact ih h1
    · split at h
      · cases h
      · rename_i v M1 h1
        split at h
        · cases h
        · rename_i h2
          simp only [Option.some.injEq, Prod.mk.injEq] at h
          obtain ⟨_, rfl, _⟩ := h
          exact (evOp_keeps hc h1).trans (ih h2)

theorem evC_keeps {n : Nat} : ∀ {c : C} {env env' : Env} {M M' : Mem} {x : X}, evC call n c env M = some (x, env', M') → Keeps M M' := by
  intro c
  induction c with
  | skip => intro env env' M M' x h; simp only [evC, Option.some.injEq, Prod.mk.injEq] at h; obtain ⟨_, _, rfl⟩ := h; exact Keeps.refl _
  | reg ops outs =>
    intro env env' M M' x h
    simp only [evC] at h
    split at h
    · cases h
    · rename_i L M1 h1
      simp only [Option.some.injEq, Prod.mk.injEq] at h; obtain ⟨_, _, rfl⟩ := h
      exact evOps_keeps hc h1
  | regD ops outs =>
    intro env env' M M' x h
    simp only [evC] at h
    split at h
    · cases h
    · rename_i L M1 ms tr h1
      split at h
      · simp only [Option.some.injEq, Prod.mk.injEq] at h; obtain ⟨_, _, rfl⟩ := h
        exact evOpsD_keeps hc h1
      · cases h
  | seq a b iha ihb =>
    intro env env' M M' x h
    simp only [evC] at h
    split at h
    · rename_i env1 M1 h1
      exact (iha h1).trans (ihb h)
    · exact iha h
  | seqT a outs b iha ihb =>
    intro env env' M M' x h
    simp only [evC] at h
    split at h
    · rename_i env1 M1 h1
      exact (iha h1).trans (ihb h)
    · exact iha h
  | cond c a b iha ihb =>
    intro env env' M M' x h
    simp only [evC] at h
    split at h
    · exact iha h
    · exact ihb h
    · cases h
  | block id a ih =>
    intro env env' M M' x h
    simp only [evC] at h
    split at h
    · rename_i i env1 M1 h1
      split at h <;> (simp only [Option.some.injEq, Prod.mk.injEq] at h; obtain ⟨_, _, rfl⟩ := h; exact ih h1)
    · exact ih h
  | loop keep pop a ih =>
    intro env env' M M' x h
    simp only [evC] at h
    refine iter_keeps (fun env M x env' M' h => ih h) (M0 := M) ?_ n (Keeps.refl M) h
    cases pop
    · exact .inl rfl
    · exact .inr rfl
  | exit id => intro env env' M M' x h; simp only [evC, Option.some.injEq, Prod.mk.injEq] at h; obtain ⟨_, _, rfl⟩ := h; exact Keeps.refl _
  | cut => intro env env' M M' x h; simp only [evC] at h; cases h
  | dfr g caps outs =>
    intro env env' M M' x h
    simp only [evC] at h
    split at h
    · cases h
    · simp only [Option.some.injEq, Prod.mk.injEq] at h
      obtain ⟨_, _, rfl⟩ := h
      exact Keeps.refl _
  | ret => intro env env' M M' x h; simp only [evC, Option.some.injEq, Prod.mk.injEq] at h; obtain ⟨_, _, rfl⟩ := h; exact Keeps.refl _
  | rangeFunc g ps as body keep _ _ =>
    intro env env' M M' x h
    simp only [evC] at h
    split at h
    · split at h
      · cases h
      · rename_i v M1 h1
        have h2 := (Keeps.push M _).trans (hc _ _ _ _ _ h1)
        split at h
        · rename_i h3
          simp only [Option.some.injEq, Prod.mk.injEq] at h; obtain ⟨_, _, rfl⟩ := h
          exact h2.trans (Keeps.mark _ _ _ _ h3 fun _ _ => rfl)
        · rename_i h3
          simp only [Option.some.injEq, Prod.mk.injEq] at h; obtain ⟨_, _, rfl⟩ := h
          exact h2.trans (Keeps.mark _ _ _ _ h3 fun _ _ => rfl)
        · cases h
    · cases h
end

theorem shrink_keeps {M M' : Mem} (h : Keeps { M with bad := none } M') (pop : Bool) (r : AV) : Keeps M (shrink M.objs.length M.bad pop r M') := by
  unfold shrink
  split
  · rename_i hp
    simp only [Bool.and_eq_true] at hp
    refine ⟨by simp only [List.length_take]; have := h.len; simp only at this; omega, fun i o hi ho => ?_, fun b hb => ⟨b, hb, Nat.le_refl _⟩⟩
    simp only [List.getElem?_take] at ho
    rw [if_pos hi] at ho
    rcases h.obj i o hi ho with h1 | h1 | ⟨b, h1, h2⟩
    · exact .inl h1
    · exact .inr (.inl h1)
    · have hp2 := hp.2
      rw [h1] at hp2
      simp only [badOk, decide_eq_true_eq] at hp2
      omega
  · refine ⟨h.len, fun i o hi ho => ?_, fun b hb => minBad_left' _ _ _ hb⟩
    rcases h.obj i o hi ho with h1 | h1 | ⟨b, h1, h2⟩
    · exact .inl h1
    · exact .inr (.inl h1)
    · rw [h1]
      obtain ⟨y, hy, hy2⟩ := minBad_right M.bad b
      exact .inr (.inr ⟨y, hy, Nat.le_trans hy2 h2⟩)

theorem runFn_keeps {ev : C → Env → Mem → Res} (he : ∀ c env M x env' M', ev c env M = some (x, env', M') → Keeps M M') {fn : IFn} (ho : ∀ args M r M', fn.orc args M = some (r, M') → Keeps M M') {args : List AV} {M M' : Mem} {r : AV}
    (h : runFn ev fn args M = some (r, M')) : Keeps M M' := by
  unfold runFn at h
  split at h
  · rename_i h1
    simp only [Option.some.injEq] at h
    subst h
    exact ho _ _ _ _ h1
  split at h
  · split at h
    · split at h
      · cases h
      · simp only [Option.some.injEq, Prod.mk.injEq] at h
        obtain ⟨_, rfl⟩ := h
        exact shrink_keeps (he _ _ _ _ _ _ (by assumption)) _ _
    · split at h
      · cases h
      · simp only [Option.some.injEq, Prod.mk.injEq] at h
        obtain ⟨_, rfl⟩ := h
        exact shrink_keeps (he _ _ _ _ _ _ (by assumption)) _ _
    · cases h
  · cases h

theorem runYield_keeps {ev : C → Env → Mem → Res} (he : ∀ c env M x env' M', ev c env M = some (x, env', M') → Keeps M M') {id : Nat} {args : List AV} {M M' : Mem} {r : AV}
    (h : runYield ev id args M = some (r, M')) : Keeps M M' := by
  unfold runYield at h
  split at h
  · split at h
    · split at h
      · rename_i e1 M1 h1
        split at h
        · rename_i h2
          split at h
          · rename_i x e2 M2 h3
            split at h
            · rename_i h4
              simp only [Option.some.injEq, Prod.mk.injEq] at h; obtain ⟨_, rfl⟩ := h
              exact (((he _ _ _ _ _ _ h1).trans (Keeps.mark M1 id (.loop _ _ _ _ .busy) _ h2 fun _ h => h)).trans (he _ _ _ _ _ _ h3)).trans (Keeps.mark _ _ _ _ h4 fun _ h => h)
            · cases h
          · cases h
        · cases h
      · cases h
    · cases h
  · cases h

theorem callN_keeps {T : Nat → Option IFn} (hT : ∀ f fn, T f = some fn → ∀ args M r M', fn.orc args M = some (r, M') → Keeps M M') : ∀ (n : Nat) (f : Nat) (args : List AV) (M : Mem) (r : AV) (M' : Mem), callN T n f args M = some (r, M') → Keeps M M' := by
  intro n
  induction n with
  | zero => intro f args M r M' h; cases h
  | succ n ih =>
    intro f args M r M' h
    simp only [callN] at h
    split at h
    · split at h
      · exact runYield_keeps (fun c env M x env' M' h => evC_keeps ih h) h
      · cases h
    · rename_i fn hfn
      exact runFn_keeps (fun c env M x env' M' h => evC_keeps ih h) (hT f fn hfn) h

end Go.Am
namespace Go.Am
set_option linter.all false
open Go Go.RowKit

def Tag.plain : Tag → Bool
  | .own _ => false
  | .non => false
  | _ => true

def okConst1 : Value → AV → Bool
  | .bool a, .bool b => a == b
  | .int k a, .int k' b => decide (k = k') && decide (a = b)
  | .string a, .str b => decide (a.data.toList = b.data.toList)
  | .slice a n m, .list g _ xs => a.isNone && n == 0 && m == 0 && xs.isEmpty && g.plain
  | .pointer a, .nilptr => a.isNone
  | .map a, .nilmap => a.isNone
  | .nilFunc, .nilfunc => true
  | .nilIface, .niliface => true
  | _, _ => false

theorem okConst1_ok {s : Sim} {x : Value} {y : AV} (h : okConst1 x y = true) : VR s y x ∧ one x = true := by
  cases x <;> cases y <;> first | (simp only [okConst1] at h; cases h; done) | skip
  case bool.bool a b =>
    have : a = b := by simpa [okConst1] using h
    subst this; exact ⟨.bool _, rfl⟩
  case int.int k a k' b =>
    simp only [okConst1, Bool.and_eq_true, decide_eq_true_eq] at h
    obtain ⟨rfl, rfl⟩ := h; exact ⟨.int _ _, rfl⟩
  case string.str a b =>
    simp only [okConst1, decide_eq_true_eq] at h
    have : a = b := by
      cases a; cases b
      simp only [ByteArray.mk.injEq]
      exact Array.toList_inj.1 h
    subst this; exact ⟨.str _, rfl⟩
  case slice.list a n m g k xs =>
    simp only [okConst1, Bool.and_eq_true, beq_iff_eq, Option.isNone_iff_eq_none, List.isEmpty_iff] at h
    obtain ⟨⟨⟨⟨rfl, rfl⟩, rfl⟩, rfl⟩, hg⟩ := h
    refine ⟨.nil _ _ ?_, rfl⟩
    cases g <;> simp_all [TagOk, Tag.plain]
  case pointer.nilptr a =>
    simp only [okConst1, Option.isNone_iff_eq_none] at h
    subst h; exact ⟨.nilptr, rfl⟩
  case map.nilmap a =>
    simp only [okConst1, Option.isNone_iff_eq_none] at h
    subst h; exact ⟨.nilmap, rfl⟩
  case nilFunc.nilfunc => exact ⟨.nilfunc, rfl⟩
  case nilIface.niliface => exact ⟨.niliface, rfl⟩

def okConsts : List Value → List AV → Bool
  | [], [] => true
  | x :: xs, y :: ys => okConst1 x y && okConsts xs ys
  | _, _ => false

theorem okConsts_ok {s : Sim} : ∀ {xs : List Value} {ys : List AV}, okConsts xs ys = true →
    ys.length = xs.length ∧ (∀ v ∈ xs, one v = true) ∧ ∀ (i : Nat) (x : AV) (v : Value), ys[i]? = some x → xs[i]? = some v → VR s x v ∧ one v = true := by
  intro xs
  induction xs with
  | nil =>
    intro ys h
    cases ys with
    | nil => exact ⟨rfl, by simp, by simp⟩
    | cons y ys => simp [okConsts] at h
  | cons x xs ih =>
    intro ys h
    cases ys with
    | nil => simp [okConsts] at h
    | cons y ys =>
      simp only [okConsts, Bool.and_eq_true] at h
      obtain ⟨h1, h2, h3⟩ := ih h.2
      have h0 := okConst1_ok (s := s) h.1
      refine ⟨by simp [h1], fun v hv => ?_, fun i a v ha hv => ?_⟩
      · rcases List.mem_cons.1 hv with rfl | hv
        · exact h0.2
        · exact h2 v hv
      · cases i with
        | zero =>
          simp only [List.getElem?_cons_zero, Option.some.injEq] at ha hv
          subst ha; subst hv
          exact h0
        | succ i => exact h3 i a v (by simpa using ha) (by simpa using hv)

def okConst (x : Value) (y : AV) : Bool :=
  match x, y with
  | .agg xs, .agg ys => okConsts xs.toList ys
  | .tuple xs, .tuple ys => xs.toList.isEmpty && ys.isEmpty
  | x, y => okConst1 x y

theorem okConst_ok {s : Sim} {x : Value} {y : AV} (h : okConst x y = true) : VR s y x := by
  unfold okConst at h
  split at h
  · rename_i xs ys
    obtain ⟨h1, h2, h3⟩ := okConsts_ok (s := s) h
    have := VR.agg (s := s) ys xs.toList h1 h2 fun i x v hx hv => (h3 i x v hx hv).1
    simpa using this
  · rename_i xs ys
    simp only [Bool.and_eq_true, List.isEmpty_iff] at h
    obtain ⟨h1, rfl⟩ := h
    have : xs = #[] := by cases xs; simp_all
    subst this
    exact VR.tuple [] [] rfl (by simp)
  · exact (okConst1_ok h).1

def okArg : Operand → Arg → Bool
  | .tmp t, .t s => t == s
  | .const x, .k y => okConst x y
  | .func g, .f g' => g == g' && decide (g < yb)
  | _, _ => false

theorem okArg_ok {s : Sim} {L : Env} {a : Act} {x : Operand} {y : Arg} {v : AV} (hL : LR s L a.tmps) (h : okArg x y = true) (hv : y.ev L = some v) : VR s v (a.eval x) := by
  cases x <;> cases y <;> first | (simp only [okArg] at h; cases h; done) | skip
  case tmp.t t t' =>
    have : t = t' := by simpa [okArg] using h
    subst this
    exact (hL _ _ hv).2
  case const.k x y =>
    simp only [Arg.ev, Option.some.injEq] at hv
    subst hv
    exact okConst_ok h
  case func.f g g' =>
    simp only [okArg, Bool.and_eq_true, beq_iff_eq, decide_eq_true_eq] at h
    obtain ⟨rfl, hg⟩ := h
    simp only [Arg.ev, Option.some.injEq] at hv
    subst hv
    exact .func g [] [] [] [] rfl rfl (by simp) (by simp) hg

def okArgs : List Operand → List Arg → Bool
  | [], [] => true
  | x :: xs, y :: ys => okArg x y && okArgs xs ys
  | _, _ => false

theorem okArgs_ok {s : Sim} {L : Env} {a : Act} (hL : LR s L a.tmps) : ∀ {xs : List Operand} {ys : List Arg} {vs : List AV}, okArgs xs ys = true → evArgs L ys = some vs →
    vs.length = (xs.map a.eval).length ∧ ∀ (i : Nat) (x : AV) (v : Value), vs[i]? = some x → (xs.map a.eval)[i]? = some v → VR s x v := by
  intro xs
  induction xs with
  | nil =>
    intro ys vs h hv
    cases ys with
    | nil => simp only [evArgs, Option.some.injEq] at hv; subst hv; exact ⟨rfl, by simp⟩
    | cons y ys => simp [okArgs] at h
  | cons x xs ih =>
    intro ys vs h hv
    cases ys with
    | nil => simp [okArgs] at h
    | cons y ys =>
      simp only [okArgs, Bool.and_eq_true] at h
      simp only [evArgs] at hv
      split at hv
      · cases hv
      · rename_i v1 e1
        split at hv
        · cases hv
        · rename_i vs1 e2
          simp only [Option.some.injEq] at hv
          subst hv
          obtain ⟨h1, h2⟩ := ih h.2 e2
          refine ⟨by simpa using h1, fun i x v hx hv => ?_⟩
          cases i with
          | zero =>
            simp only [List.getElem?_cons_zero, Option.some.injEq, List.map_cons] at hx hv
            subst hx; subst hv
            exact okArg_ok hL h.1 e1
          | succ i => exact h2 i x v (by simpa using hx) (by simpa using hv)

/-! Types. -/

def szOf (P : Program) (t : TypeId) : Option Nat := (P.info? t).map (·.size)

theorem run_sizeOf {P : Program} {t : TypeId} {n : Nat} {w : World} (h : szOf P t = some n) : (sizeOf t).run P w = .ok n w := by
  simp only [szOf, Option.map_eq_some_iff] at h
  obtain ⟨i, h1, rfl⟩ := h
  simp [sizeOf, typeInfo, h1]

def aggOf (P : Program) (t : TypeId) : Option Bool :=
  match P.underlying t with
  | some (.struct _) | some (.array _ _) => some true
  | some _ => some false
  | none => none

theorem run_isAgg {P : Program} {t : TypeId} {b : Bool} {w : World} (h : aggOf P t = some b) : (isAgg t).run P w = .ok b w := by
  unfold aggOf at h
  unfold isAgg underlying
  split at h <;> simp_all

/-- How a type's values are taken: one cell, or so many as a struct. -/
def okPart (P : Program) (t : TypeId) (k : Option Nat) : Bool :=
  match aggOf P t, szOf P t, k with
  | some true, some n, some m => n == m && decide (0 < n)
  | some false, some n, none => n == 1
  | _, _, _ => false

def okSize (P : Program) (t : TypeId) (k : Nat) : Bool :=
  match szOf P t with
  | some n => n == k && decide (0 < n)
  | none => false

def okZero (P : Program) (t : TypeId) (cs : List AV) : Bool :=
  match P.info? t with
  | some i => match i.zero with
    | some z => okConsts z.cells.toList cs
    | none => false
  | none => false

theorem run_zeroValue {P : Program} {t : TypeId} {cs : List AV} {w : World} (h : okZero P t cs = true) : ∃ z, (zeroValue t).run P w = .ok z w ∧ okConsts z.cells.toList cs = true := by
  unfold okZero at h
  split at h
  · rename_i i hi
    split at h
    · rename_i z hz
      exact ⟨z, by simp [zeroValue, typeInfo, hi, hz], h⟩
    · cases h
  · cases h

def zeroVal (P : Program) (t : TypeId) (x : AV) : Bool :=
  match P.info? t with
  | some i => match i.zero with
    | some z => okConst z x
    | none => false
  | none => false

theorem run_zeroVal {P : Program} {t : TypeId} {x : AV} {w : World} (h : zeroVal P t x = true) : ∃ z, (zeroValue t).run P w = .ok z w ∧ okConst z x = true := by
  unfold zeroVal at h
  split at h
  · rename_i i hi
    split at h
    · rename_i z hz
      exact ⟨z, by simp [zeroValue, typeInfo, hi, hz], h⟩
    · cases h
  · cases h

end Go.Am
