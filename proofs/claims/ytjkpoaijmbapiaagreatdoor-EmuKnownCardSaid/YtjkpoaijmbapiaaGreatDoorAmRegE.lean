/- An abstract machine for the part of Go that this program uses: a region whose order is open: the walk lifted. -/
import Derived.Test.YtjkpoaijmbapiaaGreatDoorAmRegD
namespace Go.Am
set_option linter.all false
open Go Go.RowKit

/-- How many of the operations that may turn the memory are among those chosen. -/
def cntFrom (f : Nat → Bool) : Nat → List (IOper × Nat × Nat) → Nat
  | _, [] => 0
  | k, p :: ps => (if p.1.op.isEff && f k then 1 else 0) + cntFrom f (k + 1) ps

theorem cntFrom_le {f g : Nat → Bool} : ∀ (is : List (IOper × Nat × Nat)) (k : Nat), (∀ j p, is[j]? = some p → p.1.op.isEff = true → f (k + j) = true → g (k + j) = true) → cntFrom f k is ≤ cntFrom g k is := by
  intro is
  induction is with
  | nil => intro k _; exact Nat.le_refl _
  | cons p is ih =>
    intro k h
    have h1 := ih (k + 1) fun j q hq he hf => by
      have := h (j + 1) q (by simpa using hq) he
      rw [show k + (j + 1) = k + 1 + j by omega] at this
      exact this hf
    have h0 := h 0 p rfl
    simp only [Nat.add_zero] at h0
    simp only [cntFrom]
    cases he : p.1.op.isEff
    · simpa using h1
    · cases hf : f k
      · simp; omega
      · rw [h0 he hf]; simp; exact h1

theorem effCount_cons (p : IOper × Nat × Nat) (is : List (IOper × Nat × Nat)) : effCount (p :: is) = (if p.1.op.isEff then 1 else 0) + effCount is := by
  simp only [effCount, List.filter_cons]
  cases p.1.op.isEff <;> simp [Nat.add_comm]

theorem cntFrom_rank (t : Nat) : ∀ (is : List (IOper × Nat × Nat)) (k c : Nat), cntFrom (fun j => decide (c + effCount (is.take (j - k)) < t)) k is = min (t - c) (effCount is) := by
  intro is
  induction is with
  | nil => intro k c; simp [cntFrom, effCount]
  | cons p is ih =>
    intro k c
    simp only [cntFrom, Nat.sub_self, List.take_zero]
    have e0 : effCount ([] : List (IOper × Nat × Nat)) = 0 := rfl
    rw [e0, Nat.add_zero, effCount_cons]
    have h1 : cntFrom (fun j => decide (c + effCount ((p :: is).take (j - k)) < t)) (k + 1) is = cntFrom (fun j => decide ((c + if p.1.op.isEff then 1 else 0) + effCount (is.take (j - (k + 1))) < t)) (k + 1) is := by
      apply Nat.le_antisymm <;> refine cntFrom_le is (k + 1) fun j q hq he hf => ?_
      · simp only [decide_eq_true_eq] at hf ⊢
        rw [show k + 1 + j - k = j + 1 by omega, List.take_succ_cons, effCount_cons] at hf
        rw [show k + 1 + j - (k + 1) = j by omega]
        omega
      · simp only [decide_eq_true_eq] at hf ⊢
        rw [show k + 1 + j - k = j + 1 by omega, List.take_succ_cons, effCount_cons]
        rw [show k + 1 + j - (k + 1) = j by omega] at hf
        omega
    rw [h1, ih (k + 1) _]
    cases p.1.op.isEff
    · simp
    · simp only [Bool.true_and, decide_eq_true_eq, if_true]
      split <;> omega

theorem cntFrom_index (i : Nat) : ∀ (is : List (IOper × Nat × Nat)) (k : Nat), cntFrom (fun j => decide (j < k + i)) k is = effCount (is.take i) := by
  induction i with
  | zero =>
    intro is
    induction is with
    | nil => intro k; rfl
    | cons p is ih =>
      intro k
      simp only [cntFrom, List.take_zero, Nat.add_zero]
      have h1 : cntFrom (fun j => decide (j < k)) (k + 1) is ≤ cntFrom (fun j => decide (j < k + 1 + 0)) (k + 1) is := cntFrom_le is (k + 1) fun j q _ _ hf => by simp at hf ⊢; omega
      rw [ih (k + 1)] at h1
      simp only [List.take_zero] at h1
      have e0 : effCount ([] : List (IOper × Nat × Nat)) = 0 := rfl
      rw [e0] at h1 ⊢
      simp
      omega
  | succ i ihi =>
    intro is k
    cases is with
    | nil => rfl
    | cons p is =>
      simp only [cntFrom, List.take_succ_cons]
      rw [effCount_cons]
      have h1 : cntFrom (fun j => decide (j < k + (i + 1))) (k + 1) is = cntFrom (fun j => decide (j < k + 1 + i)) (k + 1) is := by
        rw [show k + (i + 1) = k + 1 + i by omega]
      rw [h1, ihi is (k + 1)]
      simp

theorem cntFrom_all {f : Nat → Bool} : ∀ (is : List (IOper × Nat × Nat)) (k : Nat), (∀ j, j < is.length → f (k + j) = true) → cntFrom f k is = effCount is := by
  intro is
  induction is with
  | nil => intro k _; rfl
  | cons p is ih =>
    intro k h
    rw [effCount_cons]
    simp only [cntFrom]
    have h0 := h 0 (by simp)
    simp only [Nat.add_zero] at h0
    rw [ih (k + 1) fun j hj => by rw [show k + 1 + j = k + (j + 1) by omega]; exact h (j + 1) (by simpa using hj), h0]
    simp

theorem cntFrom_insert {f : Nat → Bool} {i : Nat} : ∀ (is : List (IOper × Nat × Nat)) (k : Nat) (p : IOper × Nat × Nat), is[i]? = some p → f (k + i) = false → cntFrom (fun j => f j || decide (j = k + i)) k is = cntFrom f k is + (if p.1.op.isEff then 1 else 0) := by
  induction i with
  | zero =>
    intro is k p h hf
    cases is with
    | nil => simp at h
    | cons q is =>
      simp only [List.getElem?_cons_zero, Option.some.injEq] at h
      subst h
      simp only [cntFrom, Nat.add_zero] at hf ⊢
      have h1 : cntFrom (fun j => f j || decide (j = k)) (k + 1) is = cntFrom f (k + 1) is := by
        apply Nat.le_antisymm <;> refine cntFrom_le is (k + 1) fun j q _ _ hh => ?_
        · simp only [Bool.or_eq_true, decide_eq_true_eq] at hh
          rcases hh with hh | hh
          · exact hh
          · omega
        · simp [hh]
      rw [h1, hf]
      simp
      omega
  | succ i ih =>
    intro is k p h hf
    cases is with
    | nil => simp at h
    | cons q is =>
      simp only [cntFrom]
      have := ih is (k + 1) p (by simpa using h) (by rw [show k + 1 + i = k + (i + 1) by omega]; exact hf)
      rw [show k + 1 + i = k + (i + 1) by omega] at this
      rw [this]
      have hk : ¬ (k = k + (i + 1)) := by omega
      simp only [hk, decide_false, Bool.or_false]
      omega

section
variable {P : Program} {w0 : Base} {w : World} {s : Sim} {M : Mem}

/-- A new block, held for a variable that is still to come. -/
theorem MR.holdNew {H : Nat → Option Obj} (h : MR (w0.hold H) s M w) (o : Obj) : MR (w0.hold fun c => if c = w.heap.size then some o else H c) s M (w.alloc o) := by
  have h1 := h.alloc o
  refine ⟨h1.below, h1.fz, h1.dom, fun id x hx => ?_, h1.inj, h1.own, h1.defs, h1.old, fun b x hx => ?_⟩
  · have := h1.obj id x hx
    cases x <;> exact this
  · simp only [Base.hold] at hx
    split at hx
    · rename_i e
      subst e
      simp only [Option.some.injEq] at hx
      subst hx
      exact ⟨h.below.size, heap_alloc_new w o, fun id l hl e => absurd (h.block_lt hl e) (Nat.lt_irrefl _), fun y => h.fz_new y, fun hd => absurd (h.def_lt hd) (Nat.lt_irrefl _)⟩
    · exact h1.held b x hx

/-- A block that was held comes to be a row. -/
theorem MR.born {H : Nat → Option Obj} (h : MR (w0.hold H) s M w) {b k : Nat} {z : Array Value} {t : TypeId} (hb : H b = some (.cells z t (0, 0))) {x : AV} {xv : Value} (hx : VR s x xv) (hsol : x.solid = true) (hk : okSize P t k = true)
    (hl : x.cells.length = k) (hz : z.size = k) :
    ∃ w' s', (Instr.storeAt t (.pointer (some ⟨b, 0, none⟩)) xv).run P w = .ok () w' ∧ s.le s' ∧ MR (w0.hold fun c => if c = b then none else H c) s' (M.push (.row 0 x.cells)) w' ∧ VR s' (.ptr M.objs.length 0 0) (.pointer (some ⟨b, 0, none⟩)) := by
  obtain ⟨hB, h2, h3, h4, h5⟩ := h.held b _ hb
  obtain ⟨hsz, hk0⟩ := okSize_some hk
  obtain ⟨hcl, hcv⟩ := hx.cells
  have hone := hx.cells_one (solid_tuple hsol)
  have hsize : xv.cells.size = k := by omega
  have hst := run_storeCells_at P b 0 t xv.cells.toList 0 z w h2 (by simp; omega) (fun v hv => by rw [one_iff]; exact hone v hv)
  have hrow : (z.toList.take (0 + 0) ++ xv.cells.toList ++ z.toList.drop (0 + 0 + xv.cells.toList.length)).toArray = xv.cells := by
    have : z.toList.drop (0 + 0 + xv.cells.toList.length) = [] := List.drop_eq_nil_of_le (by simp; omega)
    rw [this]; simp
  rw [hrow] at hst
  have hrun : (Instr.storeAt t (.pointer (some ⟨b, 0, none⟩)) xv).run P w = .ok () (w.setRow b xv.cells) := by
    simp only [Instr.storeAt, Instr.sureAddr, storeVar, Sem.run_bind, Sem.run_pure, Result.andThen_ok, run_sizeOf hsz]
    rw [if_neg (by simp; omega)]
    exact hst
  have hnew : (w.setRow b xv.cells).heap[b]? = some (.cells xv.cells t (0, 0)) := setRow_heap w b z _ t _ h2
  have hm1 : MR (w0.hold fun c => if c = b then none else H c) s M (w.setRow b xv.cells) := by
    refine ⟨below_setRow h.below hB _, fun b' o v hf => ?_, h.dom, fun id o ho => ?_, h.inj, h.own, fun d hd => ⟨(h.defs d hd).1, ?_⟩, h.old, fun c o hc => ?_⟩
    · have hne : b' ≠ b := fun e => by subst e; rw [h4 o] at hf; cases hf
      exact ⟨by rw [World.cell?_of_block (w := w) (setRow_other w b b' _ hne)]; exact (h.fz b' o v hf).1, (h.fz b' o v hf).2⟩
    · have := (h.obj id o ho).keep (s' := s) (w' := w.setRow b xv.cells) (.refl s) rfl fun l b' hl' hb' => ⟨setRow_other w b b' _ (fun e => h3 id l hl' (by rw [← e]; exact hb')), fun _ => rfl⟩
      cases o <;> exact this
    · have hne : d ≠ b := fun e => h5 (e ▸ hd)
      exact (setRow_other w b d _ hne).trans (h.defs d hd).2
    · simp only [Base.hold] at hc
      split at hc
      · cases hc
      · rename_i hne
        obtain ⟨k1, k2, k3⟩ := h.held c o hc
        exact ⟨k1, (setRow_other w b c _ hne).trans k2, k3⟩
  have hpush := hm1.pushObj (.row 0 x.cells) (.row 0 (some b) xv.cells.size) (fun b' hb' => by
    simp only [Loc.block, Option.some.injEq] at hb'
    subst hb'
    exact ⟨hB, h3, by simp [Base.hold]⟩)
    ⟨b, xv.cells, t, setLoc_self _ _ _, hnew, by omega, fun i y v hy hv => ⟨(hcv i y v hy hv).mono (le_setLoc_new hm1 _), hone v (by
      rw [← Array.getElem?_toList] at hv; exact List.mem_of_getElem? hv)⟩, fun o => h4 o⟩
  exact ⟨_, _, hrun, le_setLoc_new hm1 _, hpush, .ptr _ 0 0 b 0 (some b) _ (setLoc_self _ _ _) (Nat.le_refl _) (fun _ => rfl)⟩

theorem lazy_run {t : TypeId} {k : Nat} (hz : zeroSz P t k = true) : ∃ z : Array Value, z.size = k ∧ (Instr.alloc t true (.tuple #[])).run P w = .ok (.pointer (some ⟨w.heap.size, 0, none⟩)) (w.alloc (.cells z t)) := by
  unfold zeroSz at hz
  split at hz
  · rename_i i hi
    split at hz
    · rename_i z hzz
      refine ⟨z.cells, by simpa using hz, ?_⟩
      have : (zeroValue t).run P w = .ok z w := by simp [zeroValue, typeInfo, hi, hzz]
      simp only [Instr.alloc, Sem.run_bind, this, Result.andThen_ok, run_newVar, Sem.run_pure]
    · cases hz
  · cases hz
end

section
variable {P : Program} {w0 : Base}

theorem lazy_parts {nt : Nat} {o : Oper} {p : IOper} (h : okLazy nt o p = true) : ∃ t d, o.op = .alloc t ∧ o.dst = some d ∧ p.op = .lazy d ∧ d < nt ∧ p.dst = none ∧ o.guard = none ∧ p.guard = none := by
  unfold okLazy at h
  split at h
  · rename_i t d d' h1 h2 h3
    simp only [Bool.and_eq_true, beq_iff_eq, decide_eq_true_eq, Option.isNone_iff_eq_none] at h
    obtain ⟨⟨⟨⟨rfl, k1⟩, k2⟩, k3⟩, k4⟩ := h
    exact ⟨t, d, h1, h2, h3, k1, k2, k3, k4⟩
  · cases h

theorem birth_parts {nt : Nat} {o : Oper} {p : IOper} (h : okBirth P nt o p = true) :
    ∃ t d y k x, o.op = .store t (.tmp d) y ∧ p.op = .fn (.birth k) [x] ∧ p.dst = some d ∧ d < nt ∧ o.dst = none ∧ okSize P t k = true ∧ zeroSz P t k = true ∧ okArg y x = true ∧ o.guard = none ∧ p.guard = none := by
  unfold okBirth at h
  split at h
  · rename_i t d y k x d' h1 h2 h3
    simp only [Bool.and_eq_true, beq_iff_eq, decide_eq_true_eq, Option.isNone_iff_eq_none] at h
    obtain ⟨⟨⟨⟨⟨⟨⟨rfl, k1⟩, k2⟩, k3⟩, k4⟩, k5⟩, k6⟩, k7⟩ := h
    exact ⟨t, d, y, k, x, h1, h2, h3, k1, k2, k3, k4, k5, k6, k7⟩
  · cases h

theorem plain_parts {nt : Nat} {ops : Array Oper} {o : Oper} {p : IOper} (h : okOper P nt ops o p = true) : (∀ d, p.op ≠ .lazy d) ∧ ∀ d, isBirth d p = false := by
  have h1 := (okOper_parts h).1
  refine ⟨fun d e => by rw [e] at h1; simp [okOp] at h1, fun d => ?_⟩
  unfold isBirth
  split
  · rename_i e
    rw [e] at h1
    simp [okOp, okF] at h1
  · rfl

theorem isBirth_some {d : Nat} {p : IOper} (h : isBirth d p = true) : ∃ k xs, p.op = .fn (.birth k) xs ∧ p.dst = some d := by
  unfold isBirth at h
  split at h
  · rename_i k xs e; exact ⟨k, xs, e, by simpa using h⟩
  · cases h

theorem isLazy_some {d : Nat} {x : IOp} (h : isLazy d x = true) : x = .lazy d := by
  cases x with
  | lazy d' => simp only [isLazy, beq_iff_eq] at h; rw [h]
  | _ => simp [isLazy] at h

theorem put_getD_ne {a : Act} {d : Option Nat} {v : Value} {t : Nat} (h : d ≠ some t) : (a.put d v).tmps.getD t undef = a.tmps.getD t undef := by
  cases d with
  | none => rfl
  | some d =>
    have hne : d ≠ t := fun e => h (by rw [e])
    simp only [Act.put, Array.getD_eq_getD_getElem?, Array.getElem?_setIfInBounds_ne hne]

theorem put_getD_self {a : Act} {d : Nat} {v : Value} (h : d < a.tmps.size) : (a.put (some d) v).tmps.getD d undef = v := by
  simp [Act.put, Array.getD_eq_getD_getElem?, h]

/-- How variables that are laid, and not written yet, stand: their blocks are held. -/
structure ZI (w0 : Base) (P : Program) (ops : Array Oper) (is : List (IOper × Nat × Nat)) (listed : Array Bool) (tmps : Array Value) (H : Nat → Option Obj) (β : Nat → Option (Nat × Obj)) : Prop where
  hH : ∀ b o, H b = some o ↔ (w0.held b = some o ∨ ∃ i, β i = some (b, o))
  hb : ∀ i b o, β i = some (b, o) → listed.getD i false = true ∧ ∃ p d z t, is[i]? = some p ∧ p.1.op = .lazy d ∧ (∀ (j : Nat) (q : IOper × Nat × Nat), is[j]? = some q → isBirth d q.1 = true → listed.getD j false = false) ∧
    tmps.getD d undef = .pointer (some ⟨b, 0, none⟩) ∧ o = .cells z t (0, 0) ∧ (ops[i]?).bind allocT = some t ∧ ∀ k, zeroSz P t k = true → z.size = k
  hp : ∀ (i : Nat) (p : IOper × Nat × Nat) (d : Nat), is[i]? = some p → p.1.op = .lazy d → listed.getD i false = true → (∃ (j : Nat) (q : IOper × Nat × Nat), is[j]? = some q ∧ isBirth d q.1 = true ∧ listed.getD j false = true) ∨ ∃ b o, β i = some (b, o)
  hi : ∀ i i' b o o', β i = some (b, o) → β i' = some (b, o') → i = i'
  hw : ∀ i b o, β i = some (b, o) → w0.held b = none

theorem contains_mem {l : List Nat} {t : Nat} (h : t ∈ l) : l.contains t = true := by simpa using h

theorem regD_sound {call : Nat → List AV → Mem → Option (AV × Mem)} (hcs : CallSound P w0 call) {r : Option Nat} {n nt : Nat} {ops : Array Oper} {Q : Exit → Act → World → Prop} {is : List (IOper × Nat × Nat)} {s : Sim} {M : Mem} {w : World} {L : Env} {a : Act} {L' : Env} {M' : Mem} {ms : List Mem} {tr : List (Env × AV × Bool)}
    (hok : okD P nt ops is = true) (hnt : nt ≤ a.tmps.size) (h : evOpsD call is L M [M] = some (L', M', ms, tr)) (hst : stayAll call ms is tr = true) (hL : LR s L a.tmps) (hm : MR w0 s M w)
    (hQ : ∀ s' a' w', s.le s' → LR s' L' a'.tmps → a'.tmps.size = a.tmps.size → a'.defers = a.defers → MR w0 s' M' w' → Q .normal a' w') :
    wpAnyIn (wide r) n P .any ops Q ops.size (Array.replicate ops.size false) a w := by
  simp only [okD, Bool.and_eq_true] at hok
  obtain ⟨⟨⟨hops, hz0⟩, hedge⟩, hpair⟩ := hok
  obtain ⟨t1, t2, t3, t4, t5, t6⟩ := trace_facts is L M [M] L' M' ms tr 0 rfl rfl h
  -- the operations, one by one
  have hlen : is.length = ops.size := by
    have key : ∀ (os : List Oper) (is : List IOper), okOpersZ P nt ops os is = true → os.length = is.length := by
      intro os
      induction os with
      | nil => intro is h; cases is <;> simp_all [okOpersZ]
      | cons o os ih => intro is h; cases is with
        | nil => simp [okOpersZ] at h
        | cons i is => simp only [okOpersZ, Bool.and_eq_true] at h; simp [ih is h.2]
    have := key _ _ hops
    simpa using this.symm
  have hop : ∀ (i : Nat) (o : Oper) (p : IOper × Nat × Nat), ops[i]? = some o → is[i]? = some p → okOper P nt ops o p.1 = true ∨ okLazy nt o p.1 = true ∨ okBirth P nt o p.1 = true := by
    have key : ∀ (os : List Oper) (js : List IOper) (i : Nat) (o : Oper) (j : IOper), okOpersZ P nt ops os js = true → os[i]? = some o → js[i]? = some j → okOper P nt ops o j = true ∨ okLazy nt o j = true ∨ okBirth P nt o j = true := by
      intro os
      induction os with
      | nil => intro js i o j _ h; simp at h
      | cons x os ih =>
        intro js i o j h h1 h2
        cases js with
        | nil => simp at h2
        | cons y js =>
          simp only [okOpersZ, Bool.and_eq_true, Bool.or_eq_true, or_assoc] at h
          cases i with
          | zero => simp only [List.getElem?_cons_zero, Option.some.injEq] at h1 h2; subst h1; subst h2; exact h.1
          | succ i => exact ih js i o j h.2 (by simpa using h1) (by simpa using h2)
    intro i o p h1 h2
    exact key _ _ i o p.1 hops (by simpa using h1) (by simp [h2])
  -- what is laid in any order
  have hz1 : ∀ (i : Nat) (p : IOper × Nat × Nat), is[i]? = some p → okZ1 ops is p.1 i = true := fun i p hi => List.all_eq_true.1 hz0 (p, i) (by rw [List.mem_zipIdx_iff_getElem?]; exact hi)
  have hlz : ∀ (i : Nat) (p : IOper × Nat × Nat) (d : Nat), is[i]? = some p → p.1.op = .lazy d → (∃ (j : Nat) (q : IOper × Nat × Nat), is[j]? = some q ∧ isBirth d q.1 = true) ∧ ∀ (k : Nat) (o : Oper), ops[k]? = some o → k ≠ i → o.dst ≠ some d := by
    intro i p d hi he
    have h1 := hz1 i p hi
    unfold okZ1 at h1
    rw [he] at h1
    simp only [Bool.and_eq_true] at h1
    refine ⟨?_, fun k o hk hne => ?_⟩
    · obtain ⟨q, h3, h4⟩ := List.any_eq_true.1 h1.1
      obtain ⟨q, j⟩ := q
      rw [List.mem_zipIdx_iff_getElem?] at h3
      exact ⟨j, q, h3, h4⟩
    · have h3 := List.all_eq_true.1 h1.2 (o, k) (by rw [List.mem_zipIdx_iff_getElem?]; simpa using hk)
      simp only [Bool.or_eq_true, decide_eq_true_eq] at h3
      rcases h3 with h3 | h3
      · exact absurd h3 hne
      · exact h3
  have hbt : ∀ (j : Nat) (q : IOper × Nat × Nat) (d : Nat), is[j]? = some q → isBirth d q.1 = true → (∀ (j' : Nat) (q' : IOper × Nat × Nat), is[j']? = some q' → isBirth d q'.1 = true → j' = j) ∧
      ∃ (i : Nat) (p : IOper × Nat × Nat), is[i]? = some p ∧ p.1.op = .lazy d ∧ (ops[i]?).bind allocT = (ops[j]?).bind storeT ∧ ((befs ops.toList).getD j 0).testBit i = true := by
    intro j q d hj hb
    obtain ⟨k, xs, e1, e2⟩ := isBirth_some hb
    have h1 := hz1 j q hj
    unfold okZ1 at h1
    rw [e1, e2] at h1
    simp only [Bool.and_eq_true] at h1
    refine ⟨fun j' q' hj' hb' => ?_, ?_⟩
    · have h3 := List.all_eq_true.1 h1.1 (q', j') (by rw [List.mem_zipIdx_iff_getElem?]; exact hj')
      simp only [Bool.or_eq_true, decide_eq_true_eq, Bool.not_eq_true'] at h3
      rcases h3 with h3 | h3
      · exact h3
      · rw [hb'] at h3; cases h3
    · obtain ⟨p, h3, h4⟩ := List.any_eq_true.1 h1.2
      obtain ⟨p, i⟩ := p
      rw [List.mem_zipIdx_iff_getElem?] at h3
      simp only [Bool.and_eq_true, decide_eq_true_eq] at h4
      exact ⟨i, p, h3, isLazy_some h4.1.1, h4.1.2, h4.2⟩
  have hpr : ∀ (p q : IOper × Nat × Nat) (i j : Nat), is[i]? = some p → is[j]? = some q →
      (i < j → (p.1.op.isEff = true → q.1.op.isEff = true → ((befs ops.toList).getD j 0).testBit i = true) ∧ (meets p.1 q.1 = true → ((befs ops.toList).getD j 0).testBit i = true)) ∧
      (q.1.op.looks = true → q.2.1 ≤ effCount (is.take j) ∧ effCount (is.take j) < q.2.1 + q.2.2) ∧
      (q.1.op.looks = true → p.1.op.isEff = true → (effCount (is.take i) < q.2.1 → ((befs ops.toList).getD j 0).testBit i = true) ∧ (q.2.1 + q.2.2 ≤ effCount (is.take i) + 1 → ((befs ops.toList).getD i 0).testBit j = true)) := by
    intro p q i j hi hj
    have h1 := List.all_eq_true.1 hpair (q, j) (by rw [List.mem_zipIdx_iff_getElem?]; exact hj)
    have h2 := List.all_eq_true.1 h1 (p, i) (by rw [List.mem_zipIdx_iff_getElem?]; exact hi)
    simp only [Bool.and_eq_true, Bool.or_eq_true, Bool.not_eq_true', decide_eq_false_iff_not, decide_eq_true_eq, Bool.and_eq_false_iff] at h2
    obtain ⟨⟨g1, g2⟩, g3⟩ := h2
    refine ⟨fun hlt => ?_, fun hl => ?_, fun hl he => ?_⟩
    · rcases g1 with g1 | ⟨g1, g4⟩
      · exact absurd hlt g1
      · refine ⟨fun e1 e2 => ?_, fun e1 => ?_⟩
        · rcases g1 with (g1 | g1) | g1
          · rw [e1] at g1; cases g1
          · rw [e2] at g1; cases g1
          · exact g1
        · rcases g4 with g4 | g4
          · rw [e1] at g4; cases g4
          · exact g4
    · rcases g2 with g2 | g2
      · rw [hl] at g2; cases g2
      · exact g2
    · rcases g3 with (g3 | g3) | ⟨g3, g4⟩
      · rw [hl] at g3; cases g3
      · rw [he] at g3; cases g3
      · refine ⟨fun e => ?_, fun e => ?_⟩
        · rcases g3 with g3 | g3
          · exact absurd e g3
          · exact g3
        · rcases g4 with g4 | g4
          · exact absurd e g4
          · exact g4
  have hback : ∀ (i : Nat) (o : Oper), ops[i]? = some o → ∀ e ∈ o.after.toList, Region.binds .any e = true → e.on < i := by
    intro i o hi e he hb
    have h1 := List.all_eq_true.1 hedge (o, i) (by rw [List.mem_zipIdx_iff_getElem?]; simpa using hi)
    have h2 := List.all_eq_true.1 h1 e he
    simp only [Bool.or_eq_true, Bool.not_eq_true', decide_eq_true_eq] at h2
    rcases h2 with h2 | h2
    · rw [hb] at h2; cases h2
    · exact h2
  have hent : ∀ (i : Nat) (p : IOper × Nat × Nat) (Li : Env) (v : AV) (ran : Bool), is[i]? = some p → tr[i]? = some (Li, v, ran) → (entries is tr)[i]? = some (p.1.dst, v) := by
    intro i p Li v ran hi ht
    simp only [entries, List.getElem?_map]
    rw [List.getElem?_zip_eq_some (z := (p, (Li, v, ran))).2 ⟨hi, ht⟩]
    rfl
  have hent2 : ∀ (j : Nat) (d : Option Nat) (v : AV), (entries is tr)[j]? = some (d, v) → ∃ p, is[j]? = some p ∧ p.1.dst = d := by
    intro j d v hj
    simp only [entries, List.getElem?_map, Option.map_eq_some_iff] at hj
    obtain ⟨x, hx, hx2⟩ := hj
    have := List.getElem?_zip_eq_some.1 hx
    exact ⟨x.1, this.1, (Prod.mk.inj hx2).1⟩
  -- the walk over whatever order
  have main : ∀ (fuel : Nat) (listed : Array Bool) (s1 : Sim) (a1 : Act) (w1 : World), listed.size = ops.size → (is.zipIdx.filter fun p => !listed.getD p.2 false).length ≤ fuel →
      (∀ (j : Nat) (o : Oper), ops[j]? = some o → listed.getD j false = true → ∀ e ∈ o.after.toList, Region.binds .any e = true → listed.getD e.on false = true) →
      s.le s1 → LR s1 (envS (fun j => listed.getD j false) 0 (entries is tr) L) a1.tmps → a1.tmps.size = a.tmps.size → a1.defers = a.defers →
      (∃ Mk H β, ms[cntFrom (fun j => listed.getD j false) 0 is]? = some Mk ∧ MR (w0.hold H) s1 Mk w1 ∧ ZI w0 P ops is listed a1.tmps H β) → wpAnyIn (wide r) n P .any ops Q fuel listed a1 w1 := by
    -- at the end
    have fin : ∀ (listed : Array Bool) (s1 : Sim) (a1 : Act) (w1 : World), listed.size = ops.size → s.le s1 → LR s1 (envS (fun j => listed.getD j false) 0 (entries is tr) L) a1.tmps → a1.tmps.size = a.tmps.size → a1.defers = a.defers →
        (∃ Mk H β, ms[cntFrom (fun j => listed.getD j false) 0 is]? = some Mk ∧ MR (w0.hold H) s1 Mk w1 ∧ ZI w0 P ops is listed a1.tmps H β) → (∀ j, j < ops.size → listed.getD j false = true) → Q .normal a1 w1 := by
      intro listed s1 a1 w1 hsz hs hLs hsize hdef ⟨Mk, H, β, hk, hmk, hzi⟩ hall
      have hH : H = w0.held := by
        funext b
        have hno : ∀ o, ¬ ∃ i, β i = some (b, o) := by
          rintro o ⟨i, hi⟩
          obtain ⟨_, p, d, z, t, g1, g2, g3, _⟩ := hzi.hb i b o hi
          obtain ⟨j, q, g4, g5⟩ := (hlz i p d g1 g2).1
          have := g3 j q g4 g5
          rw [hall j (by have := (List.getElem?_eq_some_iff.1 g4).1; omega)] at this
          cases this
        cases h1 : H b with
        | none =>
          cases h2 : w0.held b with
          | none => rfl
          | some o => rw [(hzi.hH b o).2 (.inl h2)] at h1; cases h1
        | some o =>
          rcases (hzi.hH b o).1 h1 with h2 | h2
          · exact h2.symm
          · exact absurd h2 (hno o)
      rw [show w0.hold H = w0 by rw [hH]; rfl] at hmk
      rw [cntFrom_all is 0 fun j hj => by rw [Nat.zero_add]; exact hall j (by omega)] at hk
      rw [Nat.zero_add] at t2
      rw [t2] at hk
      simp only [Option.some.injEq] at hk
      subst hk
      refine hQ s1 a1 w1 hs (fun t v ht => hLs t v ?_) hsize hdef hmk
      rw [t5 0] at ht
      rw [← ht]
      refine envS_congr _ 0 _ _ rfl fun j v hj => ?_
      obtain ⟨p, hp, _⟩ := hent2 j _ v hj
      have := (List.getElem?_eq_some_iff.1 hp).1
      rw [Nat.zero_add]
      exact hall j (by omega)
    -- who may come up, as long as not all have been
    have some_ready : ∀ (listed : Array Bool), listed.size = ops.size → (∀ (j : Nat) (o : Oper), ops[j]? = some o → listed.getD j false = true → ∀ e ∈ o.after.toList, Region.binds .any e = true → listed.getD e.on false = true) →
        Region.ready .any ops listed = [] → ∀ j, j < ops.size → listed.getD j false = true := by
      intro listed hsz hcl hr j
      induction j using Nat.strongRecOn with
      | _ j ih =>
        intro hj
        cases hb : listed.getD j false with
        | true => rfl
        | false =>
          exfalso
          have hmem : j ∈ Region.ready .any ops listed := by
            unfold Region.ready
            rw [List.mem_filter]
            refine ⟨List.mem_range.2 hj, ?_⟩
            have h1 : listed.getD j true = false := by
              have hlt : j < listed.size := by omega
              simp only [Array.getD, hlt, dif_pos] at hb ⊢
              exact hb
            rw [h1]
            simp only [Bool.not_false, Bool.true_and, Array.getElem?_eq_getElem hj, Option.map_some, Option.getD_some]
            rw [Array.all_eq_true]
            intro q hq
            have he : ops[j].after[q] ∈ ops[j].after.toList := by simp
            cases hbb : Region.binds .any ops[j].after[q] with
            | false => rfl
            | true =>
              have hlt := hback j _ (Array.getElem?_eq_getElem hj) _ he hbb
              simp only [Bool.not_true, Bool.false_or]
              exact ih _ hlt (by omega)
          rw [hr] at hmem
          cases hmem
    intro fuel
    induction fuel with
    | zero =>
      intro listed s1 a1 w1 hsz hf hcl hs hLs hsize hdef hM
      have hall : ∀ j, j < ops.size → listed.getD j false = true := by
        intro j hj
        cases hb : listed.getD j false with
        | true => rfl
        | false =>
          exfalso
          have hjl : j < is.length := by omega
          have : (is[j], j) ∈ is.zipIdx.filter fun p => !listed.getD p.2 false := by
            rw [List.mem_filter]
            exact ⟨by rw [List.mem_zipIdx_iff_getElem?]; exact List.getElem?_eq_getElem hjl, by simp only; rw [hb]; rfl⟩
          have h0 : (is.zipIdx.filter fun p => !listed.getD p.2 false) = [] := List.eq_nil_of_length_eq_zero (by omega)
          rw [h0] at this
          cases this
      refine ⟨?_, fin listed s1 a1 w1 hsz hs hLs hsize hdef hM hall⟩
      apply List.eq_nil_iff_forall_not_mem.2
      intro j hj
      unfold Region.ready at hj
      rw [List.mem_filter, List.mem_range] at hj
      have h1 := hall j hj.1
      have hlt : j < listed.size := by omega
      have h2 : listed.getD j true = true := by
        simp only [Array.getD, hlt, dif_pos] at h1 ⊢
        exact h1
      rw [h2] at hj
      simp at hj
    | succ fuel ih =>
      intro listed s1 a1 w1 hsz hf hcl hs hLs hsize hdef hM
      refine ⟨fun hr => fin listed s1 a1 w1 hsz hs hLs hsize hdef hM (some_ready listed hsz hcl hr), fun i hi => ?_⟩
      unfold Region.ready at hi
      rw [List.mem_filter, List.mem_range] at hi
      obtain ⟨hilt, hi2⟩ := hi
      have hil : i < is.length := by omega
      have hio : ops[i]? = some ops[i] := Array.getElem?_eq_getElem hilt
      have hip : is[i]? = some is[i] := List.getElem?_eq_getElem hil
      have hit : i < tr.length := by omega
      generalize ho : ops[i] = o at hio
      generalize hp : is[i] = p at hip
      obtain ⟨Li, v, ran⟩ : Env × AV × Bool := tr[i]
      have htr : ∃ Li v ran, tr[i]? = some (Li, v, ran) := ⟨tr[i].1, tr[i].2.1, tr[i].2.2, List.getElem?_eq_getElem hit⟩
      clear Li v ran
      obtain ⟨Li, v, ran, htr⟩ := htr
      have hnl : listed.getD i false = false := by
        have hlt : i < listed.size := by omega
        have h1 : listed.getD i true = false := by
          cases hb : listed.getD i true with
          | false => rfl
          | true => rw [hb] at hi2; simp at hi2
        simp only [Array.getD, hlt, dif_pos] at h1 ⊢
        exact h1
      have hin : ∀ e ∈ o.after.toList, Region.binds .any e = true → listed.getD e.on false = true := by
        intro e he hb
        simp only [Bool.and_eq_true, hio, Option.map_some, Option.getD_some] at hi2
        have h1 := hi2.2
        rw [Array.all_eq_true] at h1
        obtain ⟨q, hq, rfl⟩ := List.mem_iff_getElem.1 he
        have := h1 q (by simpa using hq)
        simp only [Array.getElem_toList] at hb ⊢
        rw [hb] at this
        simpa using this
      have hcl' : ∀ (j : Nat) (o : Oper), ops.toList[j]? = some o → listed.getD j false = true → ∀ e ∈ o.after.toList, Region.binds .any e = true → listed.getD e.on false = true := fun j o hj => hcl j o (by simpa using hj)
      have ahead : ∀ j, ((befs ops.toList).getD i 0).testBit j = true → listed.getD j false = true := befs_closed (S := fun j => listed.getD j false) hcl' i o (by simpa using hio) hin
      have behind : ∀ j, j < ops.size → ((befs ops.toList).getD j 0).testBit i = true → listed.getD j false = false := by
        intro j hj hb
        cases hbj : listed.getD j false with
        | false => rfl
        | true =>
          have hjo : ops[j]? = some ops[j] := Array.getElem?_eq_getElem hj
          have := befs_closed (S := fun j => listed.getD j false) hcl' j ops[j] (by simp) (hcl j _ hjo hbj) i hb
          rw [hnl] at this
          cases this
      obtain ⟨f1, f2, f3, Mi, Mi1, f4, f5, f6, f7⟩ := t6 i p Li v ran hip htr
      rw [Nat.zero_add] at f4 f5
      -- what it reads is as in the text's order
      have hread : ∀ t, t ∈ p.1.reads → (envS (fun j => listed.getD j false) 0 (entries is tr) L).get t = Li.get t := by
        intro t ht
        have e1 := f2 0
        conv => rhs; rw [e1]
        refine envS_congr _ 0 _ _ rfl fun j u hj => ?_
        obtain ⟨q, hq, hqd⟩ := hent2 j _ u hj
        have hjlt := (List.getElem?_eq_some_iff.1 hq).1
        simp only [Nat.zero_add]
        rcases Nat.lt_trichotomy j i with hlt | rfl | hlt
        · rw [decide_eq_true hlt]
          refine ahead j ((hpr q p j i hq hip).1 hlt |>.2 ?_)
          simp only [meets, hqd, Bool.or_eq_true]
          exact .inl (.inl (contains_mem ht))
        · rw [hnl]; simp
        · rw [show decide (j < i) = false by simp; omega]
          refine behind j (by omega) ((hpr p q i j hip hq).1 hlt |>.2 ?_)
          simp only [meets, hqd, Bool.or_eq_true]
          exact .inr (contains_mem ht)
      have hg : guardOk (envS (fun j => listed.getD j false) 0 (entries is tr) L) p.1.guard = some ran := by
        rw [← f1]
        cases hgd : p.1.guard with
        | none => rfl
        | some tw =>
          obtain ⟨t, b⟩ := tw
          simp only [guardOk]
          rw [hread t (by simp [IOper.reads, hgd])]
      have hev : ∀ m, evOp call (envS (fun j => listed.getD j false) 0 (entries is tr) L) m p.1.op = evOp call Li m p.1.op := fun m => evOp_congr fun t ht => hread t (by simp [IOper.reads, ht])
      obtain ⟨Mk, H, β, hMk, hmk, hzi⟩ := hM
      -- the memory that it meets
      have hmem : ∃ Mn, (ran = true → evOp call (envS (fun j => listed.getD j false) 0 (entries is tr) L) Mk p.1.op = some (v, Mn)) ∧ (ran = false → Mn = Mk) ∧ ms[cntFrom (fun j => listed.getD j false) 0 is + (if p.1.op.isEff then 1 else 0)]? = some Mn := by
        cases he : p.1.op.isEff with
        | true =>
          have hcount : cntFrom (fun j => listed.getD j false) 0 is = effCount (is.take i) := by
            rw [← cntFrom_index i is 0]
            apply Nat.le_antisymm <;> refine cntFrom_le is 0 fun j q hq hqe hf => ?_
            · simp only [Nat.zero_add, decide_eq_true_eq] at hf ⊢
              rcases Nat.lt_trichotomy j i with h | h | h
              · exact h
              · subst h; rw [hnl] at hf; cases hf
              · have hjlt := (List.getElem?_eq_some_iff.1 hq).1
                have := behind j (by omega) ((hpr p q i j hip hq).1 h |>.1 he hqe)
                rw [this] at hf; cases hf
            · simp only [Nat.zero_add, decide_eq_true_eq] at hf ⊢
              exact ahead j ((hpr q p j i hq hip).1 hf |>.1 hqe he)
          rw [hcount] at hMk ⊢
          rw [f4] at hMk
          simp only [Option.some.injEq] at hMk
          subst hMk
          refine ⟨Mi1, fun hr => by rw [hev]; exact f7 hr, fun hr => f6 hr, ?_⟩
          have e5 : effCount (is.take (i + 1)) = effCount (is.take i) + 1 := by
            rw [List.take_succ_eq_append_getElem hil, hp]
            simp [effCount, he]
          rw [e5] at f5
          simpa using f5
        | false =>
          simp only [Bool.false_eq_true, if_false, Nat.add_zero]
          refine ⟨Mk, fun hr => ?_, fun _ => rfl, hMk⟩
          rw [hev]
          cases hlk : p.1.op.looks with
          | false => exact evOp_pure he hlk (f7 hr)
          | true =>
            subst hr
            have hstay := stayAll_at is tr i p Li v hst hip htr hlk
            obtain ⟨g1, g2⟩ := (hpr p p i i hip hip).2.1 hlk
            have hlo : p.2.1 ≤ cntFrom (fun j => listed.getD j false) 0 is := by
              have h1 := cntFrom_rank p.2.1 is 0 0
              have htot : p.2.1 ≤ effCount is := by
                refine Nat.le_trans g1 ?_
                have : effCount is = effCount (is.take i) + effCount (is.drop i) := by
                  conv => lhs; rw [← List.take_append_drop i is]
                  simp only [effCount, List.filter_append, List.length_append]
                omega
              have h2 : cntFrom (fun j => decide (0 + effCount (is.take (j - 0)) < p.2.1)) 0 is ≤ cntFrom (fun j => listed.getD j false) 0 is := cntFrom_le is 0 fun j q hq hqe hf => by
                simp only [Nat.zero_add, Nat.sub_zero, decide_eq_true_eq] at hf ⊢
                exact ahead j (((hpr q p j i hq hip).2.2 hlk hqe).1 hf)
              rw [h1] at h2
              omega
            have hhi : cntFrom (fun j => listed.getD j false) 0 is < p.2.1 + p.2.2 := by
              have h1 := cntFrom_rank (p.2.1 + p.2.2 - 1) is 0 0
              have h2 : cntFrom (fun j => listed.getD j false) 0 is ≤ cntFrom (fun j => decide (0 + effCount (is.take (j - 0)) < p.2.1 + p.2.2 - 1)) 0 is := cntFrom_le is 0 fun j q hq hqe hf => by
                simp only [Nat.zero_add, Nat.sub_zero, decide_eq_true_eq] at hf ⊢
                rcases Nat.lt_or_ge (effCount (is.take j)) (p.2.1 + p.2.2 - 1) with h | h
                · exact h
                · have hjlt := (List.getElem?_eq_some_iff.1 hq).1
                  have := behind j (by omega) (((hpr q p j i hq hip).2.2 hlk hqe).2 (by omega))
                  rw [this] at hf; cases hf
              rw [h1] at h2
              omega
            obtain ⟨m, m', q1, q2⟩ := stays_at p.2.2 p.2.1 _ hstay hlo hhi
            rw [hMk] at q1
            simp only [Option.some.injEq] at q1
            subst q1
            have := evOp_same he q2
            subst this
            exact q2
      obtain ⟨Mn, hrun, hskip, hMn⟩ := hmem
      -- what is behind it
      have hgetD : ∀ j, (listed.setIfInBounds i true).getD j false = (listed.getD j false || decide (j = i)) := by
        intro j
        have hlt : i < listed.size := by omega
        by_cases e : j = i
        · subst e; simp [Array.getD, hlt]
        · rw [Array.getD_eq_getD_getElem?, Array.getElem?_setIfInBounds_ne (by omega), ← Array.getD_eq_getD_getElem?]
          simp [e]
      have next : ∀ (s2 : Sim) (w2 : World) (a2 : Act), s1.le s2 → a2.tmps.size = a1.tmps.size → a2.defers = a1.defers → LR s2 (pushL p.1.dst v (envS (fun j => listed.getD j false) 0 (entries is tr) L)) a2.tmps →
          (∃ H β, MR (w0.hold H) s2 Mn w2 ∧ ZI w0 P ops is (listed.setIfInBounds i true) a2.tmps H β) → wpAnyIn (wide r) n P .any ops Q fuel (listed.setIfInBounds i true) a2 w2 := by
        intro s2 w2 a2 hle hsz2 hdef2 hL1 hm2
        have hfun : (fun j => (listed.setIfInBounds i true).getD j false) = fun j => (listed.getD j false || decide (j = 0 + i)) := by
          funext j; rw [hgetD j, Nat.zero_add]
        refine ih (listed.setIfInBounds i true) s2 a2 w2 (by simpa using hsz) ?_ ?_ (hs.trans hle) ?_ (hsz2.trans hsize) (hdef2.trans hdef) ?_
        · -- one less is left
          have hsub : (is.zipIdx.filter fun p => !(listed.setIfInBounds i true).getD p.2 false).length < (is.zipIdx.filter fun p => !listed.getD p.2 false).length := by
            have h1 : (is.zipIdx.filter fun p => !(listed.setIfInBounds i true).getD p.2 false) = (is.zipIdx.filter fun p => !listed.getD p.2 false).filter fun p => !decide (p.2 = i) := by
              rw [List.filter_filter]
              congr 1
              funext q
              rw [hgetD]
              cases listed.getD q.2 false <;> simp
            rw [h1]
            refine Nat.lt_of_le_of_ne (List.length_filter_le _ _) fun e => ?_
            have h2 := List.length_filter_eq_length_iff.1 e (p, i) (by
              rw [List.mem_filter]
              exact ⟨by rw [List.mem_zipIdx_iff_getElem?]; exact hip, by simp only; rw [hnl]; rfl⟩)
            simp at h2
          omega
        · intro j o' hj hlj e he hb
          rw [hgetD] at hlj ⊢
          simp only [Bool.or_eq_true, decide_eq_true_eq] at hlj ⊢
          rcases hlj with hlj | rfl
          · exact .inl (hcl j o' hj hlj e he hb)
          · rw [hio] at hj
            simp only [Option.some.injEq] at hj
            subst hj
            exact .inl (hin e he hb)
        · -- the environment
          intro t x hx
          refine hL1 t x ?_
          rw [← hx, hfun, pushL_get]
          by_cases hd : p.1.dst = some t
          · rw [if_pos hd]
            refine (envS_last (entries is tr) 0 i L (by rw [hent i p Li v ran hip htr, hd]) (by simp) fun j u' hlt hj => ?_).symm
            obtain ⟨q, hq, hqd⟩ := hent2 j _ u' hj
            have hjlt := (List.getElem?_eq_some_iff.1 hq).1
            simp only [Nat.zero_add, Bool.or_eq_false_iff, decide_eq_false_iff_not]
            refine ⟨behind j (by omega) ((hpr p q i j hip hq).1 hlt |>.2 ?_), by omega⟩
            simp only [meets, hd, hqd, Bool.or_eq_true]
            exact .inl (.inr (by simp))
          · rw [if_neg hd]
            refine envS_congr _ 0 _ _ rfl fun j u' hj => ?_
            obtain ⟨q, hq, hqd⟩ := hent2 j _ u' hj
            have hne : j ≠ i := by
              rintro rfl
              rw [hip] at hq
              simp only [Option.some.injEq] at hq
              subst hq
              exact hd hqd
            simp [hne]
        · obtain ⟨H2, β2, k1, k2⟩ := hm2
          refine ⟨Mn, H2, β2, ?_, k1, k2⟩
          rw [hfun, cntFrom_insert is 0 p hip (by rw [Nat.zero_add]; exact hnl)]
          exact hMn
      unfold wpOpIn
      simp only [hio]
      rcases hop i o p hio hip with hok1 | hok1 | hok1
      · -- an operation of the machine
        obtain ⟨o1, o2, o3, o4⟩ := okOper_parts hok1
        obtain ⟨pl, pb⟩ := plain_parts hok1
        have hzi' : ∀ u, ZI w0 P ops is (listed.setIfInBounds i true) (a1.put p.1.dst u).tmps H β := by
          intro u
          refine ⟨hzi.hH, fun i' b o' h => ?_, fun i' p' d h1 h2 h3 => ?_, hzi.hi, hzi.hw⟩
          · obtain ⟨g1, p', d, z, t, g2, g3, g4, g5, g6⟩ := hzi.hb i' b o' h
            refine ⟨by rw [hgetD, g1]; rfl, p', d, z, t, g2, g3, fun j q hj hq => ?_, ?_, g6⟩
            · rw [hgetD, g4 j q hj hq]
              simp only [Bool.false_or, decide_eq_false_iff_not]
              rintro rfl
              rw [hip] at hj; cases hj
              rw [pb d] at hq; cases hq
            · rw [put_getD_ne]
              · exact g5
              · rw [← o2]
                exact (hlz i' p' d g2 g3).2 i o hio fun e => by
                  subst e
                  rw [hip] at g2; cases g2
                  exact pl d g3
          · rw [hgetD] at h3
            simp only [Bool.or_eq_true, decide_eq_true_eq] at h3
            rcases h3 with h3 | rfl
            · rcases hzi.hp i' p' d h1 h2 h3 with ⟨j, q, g1, g2, g3⟩ | g
              · exact .inl ⟨j, q, g1, g2, by rw [hgetD, g3]; rfl⟩
              · exact .inr g
            · rw [hip] at h1; cases h1
              exact absurd h2 (pl d)
        have hw := guard_run hLs o4 hg
        have push : ∀ (s2 : Sim) (u : Value), s1.le s2 → VR s2 v u → LR s2 (pushL p.1.dst v (envS (fun j => listed.getD j false) 0 (entries is tr) L)) (a1.put p.1.dst u).tmps := fun s2 u hle hv => (hLs.mono hle).push (fun t ht => by have := o3 t ht; omega) hv
        cases hr : ran with
        | true =>
          rw [if_pos (by rw [hw, hr])]
          refine op_sound (hcs.of (show (w0.hold H).env = w0.env from rfl)) hmk hLs o1 (hrun hr) fun s2 w2 u g1 g2 g3 => ?_
          rw [o2]
          exact next s2 w2 _ g1 (put_size _ _ _) (put_defers _ _ _) (push s2 u g1 g3) ⟨H, β, g2, hzi' u⟩
        | false =>
          rw [if_neg (by rw [hw, hr]; simp)]
          refine ⟨fun _ _ => trivial, ?_⟩
          rw [o2]
          have := f3 hr
          subst this
          rw [hskip hr] at next
          exact next s1 w1 _ (.refl s1) (put_size _ _ _) (put_defers _ _ _) (push s1 undef (.refl s1) (.tuple [] [] rfl (by simp))) ⟨H, β, hmk, hzi' undef⟩
      · -- a variable is laid
        obtain ⟨t, d, e1, e2, e3, e4, e5, e6, e7⟩ := lazy_parts hok1
        have hran : ran = true := by rw [e7] at hg; simpa [guardOk] using hg.symm
        have hw : Region.wanted o (yielded ops a1.tmps) = true := by unfold Region.wanted; rw [e6]
        rw [if_pos hw]
        have hev1 := hrun hran
        rw [e3] at hev1
        simp only [evOp] at hev1
        split at hev1
        · rename_i hnone
          simp only [Option.some.injEq, Prod.mk.injEq] at hev1
          obtain ⟨rfl, rfl⟩ := hev1
          obtain ⟨⟨j, q, hj, hb⟩, hdst⟩ := hlz i p d hip e3
          have hjlt : j < ops.size := by have := (List.getElem?_eq_some_iff.1 hj).1; omega
          have hjo : ops[j]? = some ops[j] := Array.getElem?_eq_getElem hjlt
          have hbirth : okBirth P nt ops[j] q.1 = true := by
            obtain ⟨k, xs, b1, b2⟩ := isBirth_some hb
            rcases hop j _ q hjo hj with h1 | h1 | h1
            · have := (plain_parts h1).2 d; rw [hb] at this; cases this
            · obtain ⟨_, d2, _, _, h2, _⟩ := lazy_parts h1; rw [b1] at h2; cases h2
            · exact h1
          obtain ⟨t2, d2, y, k, x, b1, b2, b3, b4, b5, b6, b7, b8, b9, b10⟩ := birth_parts hbirth
          obtain ⟨_, i2, p2, c1, c2, c3, c4⟩ := hbt j q d hj hb
          have hi2 : i2 = i := by
            rcases Nat.decEq i2 i with h | h
            · have hi2lt : i2 < ops.size := by have := (List.getElem?_eq_some_iff.1 c1).1; omega
              have ho2 : ops[i2]? = some ops[i2] := Array.getElem?_eq_getElem hi2lt
              have hl2 : okLazy nt ops[i2] p2.1 = true := by
                rcases hop i2 _ p2 ho2 c1 with h1 | h1 | h1
                · exact absurd c2 ((plain_parts h1).1 d)
                · exact h1
                · obtain ⟨_, _, _, _, _, _, h2, _⟩ := birth_parts h1; rw [c2] at h2; cases h2
              obtain ⟨_, d3, _, g2, g3, _⟩ := lazy_parts hl2
              rw [c2] at g3; cases g3
              exact absurd g2 (hdst i2 _ ho2 h)
            · exact h
          subst hi2
          rw [hio, hjo] at c3
          simp only [Option.bind_some, allocT, e1, storeT, b1, Option.some.injEq] at c3
          subst c3
          obtain ⟨z, hzs, hzr⟩ := lazy_run (w := w1) b7
          have hlt : d < a1.tmps.size := by rw [hsize]; exact Nat.lt_of_lt_of_le e4 hnt
          have hnb : ∀ (i' : Nat) (o' : Obj), β i' ≠ some (w1.heap.size, o') := fun i' o' h => by
            have := (hzi.hH _ o').2 (.inr ⟨i', h⟩)
            rw [show H = (w0.hold H).held from rfl, hmk.held_new] at this; cases this
          have hhn : w0.held w1.heap.size = none := by
            cases h2 : w0.held w1.heap.size with
            | none => rfl
            | some o' =>
              have := (hzi.hH _ o').2 (.inl h2)
              rw [show H = (w0.hold H).held from rfl, hmk.held_new] at this; cases this
          refine ⟨fun _ _ => trivial, ?_⟩
          rw [Oper.semAt_eq _ _ _ (fun c hc => by rw [hc] at e1; cases e1)]
          have hsem : (execOp a1.eval o).run P w1 = .ok (.value (.pointer (some ⟨w1.heap.size, 0, none⟩))) (w1.alloc (.cells z t)) := by
            simp only [execOp, e1]
            exact run_v hzr
          rw [hsem, Oper.uponIn_value, e2]
          refine next s1 _ _ (.refl s1) (put_size _ _ _) (put_defers _ _ _) ?_ ⟨_, fun c => if c = i2 then some (w1.heap.size, .cells z t (0, 0)) else β c, hmk.holdNew _, ?_⟩
          · rw [e5]
            intro t' x' hx'
            simp only [pushL] at hx'
            have hne : t' ≠ d := fun e => by rw [e, hnone] at hx'; cases hx'
            obtain ⟨q1, q2⟩ := hLs t' x' hx'
            exact ⟨by rw [put_size]; exact q1, by rw [put_getD_ne (fun e => hne (Option.some.inj e).symm)]; exact q2⟩
          · refine ⟨fun b o' => ?_, fun i' b o' h => ?_, fun i' p' d' h1 h2 h3 => ?_, fun i1 i' b o1 o' h1 h2 => ?_, fun i' b o' h => ?_⟩
            · by_cases hb' : b = w1.heap.size
              · subst hb'
                rw [if_pos rfl]
                constructor
                · intro h
                  exact .inr ⟨i2, by rw [if_pos rfl, ← Option.some.inj h]⟩
                · rintro (h | ⟨i', h⟩)
                  · rw [hhn] at h; cases h
                  · split at h
                    · rw [(Prod.mk.inj (Option.some.inj h)).2]
                    · exact absurd h (hnb i' o')
              · rw [if_neg hb', hzi.hH]
                constructor
                · rintro (h | ⟨i', h⟩)
                  · exact .inl h
                  · refine .inr ⟨i', ?_⟩
                    rw [if_neg]
                    · exact h
                    · rintro rfl
                      have := (hzi.hb _ _ _ h).1
                      rw [hnl] at this; cases this
                · rintro (h | ⟨i', h⟩)
                  · exact .inl h
                  · split at h
                    · exact absurd (Prod.mk.inj (Option.some.inj h)).1.symm hb'
                    · exact .inr ⟨i', h⟩
            · split at h
              · rename_i e
                subst e
                obtain ⟨rfl, rfl⟩ := Prod.mk.inj (Option.some.inj h)
                refine ⟨by rw [hgetD]; simp, p, d, z, t, hip, e3, fun j' q' hj' hq' => ?_, put_getD_self hlt, rfl, by rw [hio]; simp [allocT, e1], fun k' hk' => ?_⟩
                · obtain ⟨_, i3, p3, g1, g2, _, g4⟩ := hbt j' q' d hj' hq'
                  rw [hgetD]
                  have hj2 : j' = j := (hbt j q d hj hb).1 j' q' hj' hq'
                  subst hj2
                  have : listed.getD j' false = false := behind j' (by have := (List.getElem?_eq_some_iff.1 hj').1; omega) c4
                  rw [this]
                  simp only [Bool.false_or, decide_eq_false_iff_not]
                  rintro rfl
                  rw [hip] at hj'; cases hj'
                  obtain ⟨_, _, h2, _⟩ := isBirth_some hq'
                  rw [e3] at h2; cases h2
                · have : ∀ k1 k2, zeroSz P t k1 = true → zeroSz P t k2 = true → k1 = k2 := fun k1 k2 h1 h2 => by
                    unfold zeroSz at h1 h2
                    split at h1
                    · rename_i ti hti
                      rw [hti] at h2
                      simp only at h2
                      split at h1
                      · rename_i zz hzz
                        rw [hzz] at h2
                        simp only [beq_iff_eq] at h1 h2
                        rw [← h1, ← h2]
                      · cases h1
                    · cases h1
                  rw [hzs]; exact this k k' b7 hk'
              · rename_i hne
                obtain ⟨g1, p', d', z', t', g2, g3, g4, g5, g6⟩ := hzi.hb i' b o' h
                refine ⟨by rw [hgetD, g1]; rfl, p', d', z', t', g2, g3, fun j' q' hj' hq' => ?_, ?_, g6⟩
                · rw [hgetD, g4 j' q' hj' hq']
                  simp only [Bool.false_or, decide_eq_false_iff_not]
                  rintro rfl
                  rw [hip] at hj'; cases hj'
                  obtain ⟨_, _, h2, _⟩ := isBirth_some hq'
                  rw [e3] at h2; cases h2
                · rw [put_getD_ne]
                  · exact g5
                  · rw [← e2]; exact (hlz i' p' d' g2 g3).2 i2 o hio (Ne.symm hne)
            · rw [hgetD] at h3
              simp only [Bool.or_eq_true, decide_eq_true_eq] at h3
              by_cases e : i' = i2
              · exact .inr ⟨_, _, by rw [if_pos e]⟩
              · rcases h3 with h3 | h3
                · rcases hzi.hp i' p' d' h1 h2 h3 with ⟨j', q', g1, g2, g3⟩ | ⟨b, o', g⟩
                  · exact .inl ⟨j', q', g1, g2, by rw [hgetD, g3]; rfl⟩
                  · exact .inr ⟨b, o', by rw [if_neg e]; exact g⟩
                · exact absurd h3 e
            · split at h1
              · rename_i e
                split at h2
                · rename_i e'; rw [e, e']
                · obtain ⟨rfl, _⟩ := Prod.mk.inj (Option.some.inj h1)
                  exact absurd h2 (hnb i' o')
              · split at h2
                · obtain ⟨rfl, _⟩ := Prod.mk.inj (Option.some.inj h2)
                  exact absurd h1 (hnb i1 o1)
                · exact hzi.hi i1 i' b o1 o' h1 h2
            · split at h
              · obtain ⟨rfl, _⟩ := Prod.mk.inj (Option.some.inj h)
                exact hhn
              · exact hzi.hw i' b o' h
        · cases hev1
      · -- a variable is written for the first time
        obtain ⟨t, d, y, k, x, e1, e2, e3, e4, e5, e6, e7, e8, e9, e10⟩ := birth_parts hok1
        have hbi : isBirth d p.1 = true := by unfold isBirth; rw [e2, e3]; simp
        have hran : ran = true := by rw [e10] at hg; simpa [guardOk] using hg.symm
        have hw : Region.wanted o (yielded ops a1.tmps) = true := by unfold Region.wanted; rw [e9]
        rw [if_pos hw]
        have hev1 := hrun hran
        rw [e2] at hev1
        simp only [evOp] at hev1
        split at hev1
        · cases hev1
        · rename_i vs hvs
          obtain ⟨xv, us, rfl, hx, hus⟩ := evArgs_cons hvs
          cases evArgs_nil hus
          simp only [aFn] at hev1
          split at hev1
          · rename_i hc
            obtain ⟨hsol, hlen2⟩ := hc
            simp only [Option.some.injEq, Prod.mk.injEq] at hev1
            obtain ⟨rfl, rfl⟩ := hev1
            obtain ⟨huniq, i', p', c1, c2, c3, c4⟩ := hbt i p d hip hbi
            have hl' : listed.getD i' false = true := ahead i' c4
            have hlt : d < a1.tmps.size := by rw [hsize]; exact Nat.lt_of_lt_of_le e4 hnt
            rcases hzi.hp i' p' d c1 c2 hl' with ⟨j, q, g1, g2, g3⟩ | ⟨b, ob, hβ⟩
            · have := huniq j q g1 g2
              subst this
              rw [hnl] at g3; cases g3
            · obtain ⟨_, p2, d2, z, t2, g2, g3, g4, g5, g6, g7, g8⟩ := hzi.hb i' b ob hβ
              rw [c1] at g2; cases g2
              rw [c2] at g3; cases g3
              subst g6
              rw [hio] at c3
              rw [g7] at c3
              simp only [Option.bind_some, storeT, e1, Option.some.injEq] at c3
              subst c3
              have hHb : H b = some (.cells z t2 (0, 0)) := (hzi.hH b _).2 (.inr ⟨i', hβ⟩)
              obtain ⟨w2, s2, r1, r2, r3, r4⟩ := hmk.born hHb (okArg_ok hLs e8 hx) hsol e6 hlen2 (g8 k e7)
              refine ⟨fun _ _ => trivial, ?_⟩
              rw [Oper.semAt_eq _ _ _ (fun c hc => by rw [hc] at e1; cases e1)]
              have hsem : (execOp a1.eval o).run P w1 = .ok .skip w2 := by
                have hd : a1.eval (.tmp d) = .pointer (some ⟨b, 0, none⟩) := g5
                simp only [execOp, e1, hd]
                exact run_u r1
              rw [hsem, Oper.uponIn_skip, e5]
              refine next s2 w2 _ r2 (put_size _ _ _) (put_defers _ _ _) ?_ ⟨_, fun c => if c = i' then none else β c, r3, ?_⟩
              · rw [e3]
                intro t' x' hx'
                simp only [pushL, Env.get] at hx'
                split at hx'
                · rename_i e
                  subst e
                  simp only [Option.some.injEq] at hx'
                  subst hx'
                  refine ⟨hlt, ?_⟩
                  show VR s2 _ (a1.tmps.getD d undef)
                  rw [g5]; exact r4
                · exact ⟨(hLs t' x' hx').1, (hLs t' x' hx').2.mono r2⟩
              · refine ⟨fun c o' => ?_, fun i1 c o' h => ?_, fun i1 p1 d1 h1 h2 h3 => ?_, fun i1 i2 c o1 o2 h1 h2 => ?_, fun i1 c o' h => ?_⟩
                · by_cases hc : c = b
                  · subst hc
                    rw [if_pos rfl]
                    constructor
                    · intro h; cases h
                    · rintro (h | ⟨i1, h⟩)
                      · rw [hzi.hw i' c _ hβ] at h; cases h
                      · split at h
                        · cases h
                        · rename_i hne
                          exact absurd (hzi.hi i1 i' c _ _ h hβ) hne
                  · rw [if_neg hc, hzi.hH]
                    constructor
                    · rintro (h | ⟨i1, h⟩)
                      · exact .inl h
                      · refine .inr ⟨i1, ?_⟩
                        rw [if_neg]
                        · exact h
                        · rintro rfl
                          rw [hβ] at h
                          exact hc (Prod.mk.inj (Option.some.inj h)).1.symm
                    · rintro (h | ⟨i1, h⟩)
                      · exact .inl h
                      · split at h
                        · cases h
                        · exact .inr ⟨i1, h⟩
                · split at h
                  · cases h
                  · rename_i hne
                    obtain ⟨q1, p3, d3, z3, t3', q2, q3, q4, q5, q6⟩ := hzi.hb i1 c o' h
                    refine ⟨by rw [hgetD, q1]; rfl, p3, d3, z3, t3', q2, q3, fun j q hj hq => ?_, q5, q6⟩
                    rw [hgetD, q4 j q hj hq]
                    simp only [Bool.false_or, decide_eq_false_iff_not]
                    rintro rfl
                    rw [hip] at hj; cases hj
                    obtain ⟨_, _, _, h5⟩ := isBirth_some hq
                    rw [e3] at h5
                    simp only [Option.some.injEq] at h5
                    subst h5
                    have hi1lt : i1 < ops.size := by have := (List.getElem?_eq_some_iff.1 q2).1; omega
                    have ho1 : ops[i1]? = some ops[i1] := Array.getElem?_eq_getElem hi1lt
                    have hl1 : okLazy nt ops[i1] p3.1 = true := by
                      rcases hop i1 _ p3 ho1 q2 with h1 | h1 | h1
                      · exact absurd q3 ((plain_parts h1).1 _)
                      · exact h1
                      · obtain ⟨_, _, _, _, _, _, h2, _⟩ := birth_parts h1; rw [q3] at h2; cases h2
                    obtain ⟨_, d5, _, k2, k3, _⟩ := lazy_parts hl1
                    rw [q3] at k3; cases k3
                    exact (hlz i' _ _ c1 c2).2 i1 _ ho1 hne k2
                · rw [hgetD] at h3
                  simp only [Bool.or_eq_true, decide_eq_true_eq] at h3
                  by_cases e : i1 = i'
                  · subst e
                    rw [c1] at h1; cases h1
                    rw [c2] at h2; cases h2
                    exact .inl ⟨i, p, hip, hbi, by rw [hgetD]; simp⟩
                  · rcases h3 with h3 | rfl
                    · rcases hzi.hp i1 p1 d1 h1 h2 h3 with ⟨j', q', k1, k2, k3⟩ | ⟨c, o', g⟩
                      · exact .inl ⟨j', q', k1, k2, by rw [hgetD, k3]; rfl⟩
                      · exact .inr ⟨c, o', by rw [if_neg e]; exact g⟩
                    · rw [hip] at h1; cases h1
                      rw [e2] at h2; cases h2
                · split at h1
                  · cases h1
                  · split at h2
                    · cases h2
                    · exact hzi.hi i1 i2 c o1 o2 h1 h2
                · split at h
                  · cases h
                  · exact hzi.hw i1 c o' h
          · cases hev1
  refine main ops.size (Array.replicate ops.size false) s a w (by simp) ?_ ?_ (.refl s) ?_ rfl rfl ⟨M, w0.held, fun _ => none, ?_, hm, ⟨(fun b o => by simp), (fun i b o h => by cases h), (fun i p d h1 h2 h3 => by simp [Array.getD] at h3), (fun i i' b o o' h => by cases h), (fun i b o h => by cases h)⟩⟩
  · refine Nat.le_trans (List.length_filter_le _ _) ?_
    simp [hlen]
  · intro j o hj hl
    simp [Array.getD] at hl
  · intro t v ht
    refine hL t v ?_
    rw [← ht]
    exact (envS_none _ 0 L fun j u hj => by simp [Array.getD]).symm
  · have : cntFrom (fun j => (Array.replicate ops.size false).getD j false) 0 is = 0 := by
      have h1 := cntFrom_le (f := fun j => (Array.replicate ops.size false).getD j false) (g := fun j => decide (j < 0 + 0)) is 0 fun j p _ _ hf => by simp [Array.getD] at hf
      rw [cntFrom_index 0 is 0] at h1
      simpa [effCount] using h1
    rw [this, t3 0 (Nat.le_refl _)]
    rfl

end
end Go.Am
