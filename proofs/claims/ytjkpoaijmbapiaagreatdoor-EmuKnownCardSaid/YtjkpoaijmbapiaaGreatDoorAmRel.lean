/- An abstract machine for the part of Go that this program uses: how its values and its memory stand to the model's, and what is kept when memory grows. -/
import Derived.Test.YtjkpoaijmbapiaaGreatDoorAmDefs
import Derived.Below
namespace Go.Am
set_option linter.all false
open Go Go.RowKit

def one : Value → Bool
  | .agg _ => false
  | .tuple _ => false
  | _ => true

/-- Where an object lies. -/
inductive Loc where
  | row (ver : Nat) (b : Option Nat) (n : Nat)
  | map (b : Nat)
  | tip (n k : Nat) (a : Option Nat) (cap : Nat)
  | loop (l : Nat)

/-- 'defs': the blocks for the deferred calls of the rounds of loops over iterators. -/
structure Sim where
  fz : Nat → Nat → Option Value
  loc : Nat → Option Loc
  defs : Nat → Prop

/-- Where it began: the memory, what of it was frozen, and how code stands to the machine's; the blocks that are held for variables that are still to come; what is known of whatever comes of that memory. -/
structure Base extends World where
  okc : Nat → Code → C → Prop
  fz0 : Nat → Nat → Option Value
  held : Nat → Option Obj
  tabs : World → Prop
  htabs : ∀ w', Below toWorld.heap.size toWorld w' → tabs w'

/-- What of a beginning code hangs on. -/
def Base.env (b : Base) : (Nat → Code → C → Prop) × (World → Prop) := (b.okc, b.tabs)

theorem Base.env_okc {a b : Base} (h : a.env = b.env) : a.okc = b.okc := congrArg Prod.fst h

/-- Another beginning, later. -/
def Base.later (b : Base) (W : World) (f : Nat → Nat → Option Value) (h : Below b.toWorld.heap.size b.toWorld W) : Base :=
  ⟨W, b.okc, f, fun _ => none, b.tabs, fun w' hw => b.htabs w' (h.trans (hw.mono h.size))⟩

/-- With a block held, or let go. -/
def Base.hold (b : Base) (f : Nat → Option Obj) : Base := { b with held := f }

instance : Coe Base World := ⟨Base.toWorld⟩

def Loc.le : Loc → Loc → Prop
  | .row v b n, .row v' b' n' => v ≤ v' ∧ (v = v' → b = b' ∧ n = n')
  | .map b, .map b' => b = b'
  | .tip n k a c, .tip n' k' a' c' => n ≤ n' ∧ (n = n' → a = a' ∧ c = c' ∧ (k = k' ∨ a = none))
  | .loop l, .loop l' => l = l'
  | _, _ => False

theorem Loc.le_refl (l : Loc) : l.le l := by
  cases l <;> simp [Loc.le]

theorem Loc.le_trans {a b c : Loc} (h : a.le b) (h' : b.le c) : a.le c := by
  cases a <;> cases b <;> cases c <;> simp only [Loc.le] at *
  · obtain ⟨h1, h2⟩ := h
    obtain ⟨h3, h4⟩ := h'
    refine ⟨Nat.le_trans h1 h3, fun e => ?_⟩
    obtain ⟨e1, e2⟩ := h2 (by omega)
    obtain ⟨e3, e4⟩ := h4 (by omega)
    exact ⟨e1.trans e3, e2.trans e4⟩
  · exact Eq.trans h h'
  · obtain ⟨h1, h2⟩ := h
    obtain ⟨h3, h4⟩ := h'
    refine ⟨Nat.le_trans h1 h3, fun e => ?_⟩
    obtain ⟨e1, e2, e3⟩ := h2 (by omega)
    obtain ⟨e4, e5, e6⟩ := h4 (by omega)
    refine ⟨e1.trans e4, e2.trans e5, ?_⟩
    rcases e3 with e3 | e3
    · rcases e6 with e6 | e6
      · exact .inl (e3.trans e6)
      · exact .inr (e1.trans e6)
    · exact .inr e3
  · exact h.trans h'

structure Sim.le (s s' : Sim) : Prop where
  fz : ∀ b o v, s.fz b o = some v → s'.fz b o = some v
  loc : ∀ id l, s.loc id = some l → ∃ l', s'.loc id = some l' ∧ l.le l'
  defs : ∀ d, s.defs d → s'.defs d

/-- The same, but for the blocks for deferred calls. -/
structure Sim.le0 (s s' : Sim) : Prop where
  fz : ∀ b o v, s.fz b o = some v → s'.fz b o = some v
  loc : ∀ id l, s.loc id = some l → ∃ l', s'.loc id = some l' ∧ l.le l'

theorem Sim.le.to0 {s s' : Sim} (h : s.le s') : s.le0 s' := ⟨h.fz, h.loc⟩

theorem Sim.le.refl (s : Sim) : s.le s := ⟨fun _ _ _ h => h, fun _ l h => ⟨l, h, l.le_refl⟩, fun _ h => h⟩

theorem Sim.le.trans {a b c : Sim} (h : a.le b) (h' : b.le c) : a.le c :=
  ⟨fun x o v e => h'.fz x o v (h.fz x o v e), fun id l e => by
    obtain ⟨l1, e1, h1⟩ := h.loc id l e
    obtain ⟨l2, e2, h2⟩ := h'.loc id l1 e1
    exact ⟨l2, e2, Loc.le_trans h1 h2⟩, fun d e => h'.defs d (h.defs d e)⟩

/-- A loop's number stays the same. -/
theorem Sim.le0.loop {s s' : Sim} (h : s.le0 s') {id l : Nat} (hl : s.loc id = some (.loop l)) : s'.loc id = some (.loop l) := by
  obtain ⟨l', h1, h2⟩ := h.loc id _ hl
  cases l' with
  | loop l2 => rw [h1, show l = l2 from h2]
  | row _ _ _ => exact h2.elim
  | map _ => exact h2.elim
  | tip _ _ _ _ => exact h2.elim

/-- A map's place stays. -/
theorem Sim.le0.map {s s' : Sim} (h : s.le0 s') {id b : Nat} (hl : s.loc id = some (.map b)) : s'.loc id = some (.map b) := by
  obtain ⟨l', h1, h2⟩ := h.loc id _ hl
  cases l' with
  | map b2 => rw [h1, show b = b2 from h2]
  | row _ _ _ => exact h2.elim
  | loop _ => exact h2.elim
  | tip _ _ _ _ => exact h2.elim

theorem Sim.le.loop {s s' : Sim} (h : s.le s') {id l : Nat} (hl : s.loc id = some (.loop l)) : s'.loc id = some (.loop l) := h.to0.loop hl

def TagOk (s : Sim) (g : Tag) (k len : Nat) (a : Option Nat) (cap : Nat) : Prop :=
  match g with
  | .shared => True
  | .full => cap = len
  | .own t => ∃ n k' a' cap', s.loc t = some (.tip n k' a' cap') ∧ len ≤ n ∧ (n = len → a' = a ∧ cap' = cap ∧ (k' = k ∨ a = none))
  | .nil => a = none
  | .non => a ≠ none

theorem TagOk.mono {s s' : Sim} (h : s.le0 s') {g : Tag} {k len : Nat} {a : Option Nat} {cap : Nat} (ht : TagOk s g k len a cap) : TagOk s' g k len a cap := by
  cases g with
  | shared => trivial
  | full => exact ht
  | nil => exact ht
  | non => exact ht
  | own t =>
    obtain ⟨n, k', a', cap', hl, hle, he⟩ := ht
    obtain ⟨l', hl', hll⟩ := h.loc t _ hl
    cases l' with
    | row _ _ _ => exact hll.elim
    | map _ => exact hll.elim
    | loop _ => exact hll.elim
    | tip n2 k2 a2 c2 =>
      obtain ⟨h1, h2⟩ := hll
      refine ⟨n2, k2, a2, c2, hl', Nat.le_trans hle h1, fun e => ?_⟩
      obtain ⟨e1, e2, e3⟩ := he (by omega)
      obtain ⟨e4, e5, e6⟩ := h2 (by omega)
      refine ⟨e4.symm.trans e1, e5.symm.trans e2, ?_⟩
      rcases e6 with e6 | e6
      · rcases e3 with e3 | e3
        · exact .inl (e6.symm.trans e3)
        · exact .inr e3
      · exact .inr (e1.symm.trans e6)

inductive VR (s : Sim) : AV → Value → Prop
  | bool (b : Bool) : VR s (.bool b) (.bool b)
  | int (k : IntKind) (n : Int) : VR s (.int k n) (.int k n)
  | str (x : ByteArray) : VR s (.str x) (.string x)
  | nil (g : Tag) (k : Nat) (ht : TagOk s g k 0 none 0) : VR s (.list g k []) (.slice none 0 0)
  | void (g : Tag) (k : Nat) (a : Addr) (hg : g = .shared ∨ g = .non) : VR s (.list g k []) (.slice (some a) 0 0)
  | list (g : Tag) (k : Nat) (xs : List AV) (b o cap : Nat) (vs : Nat → Nat → Value) (hcap : xs.length ≤ cap)
      (hk : ∀ (i : Nat) (x : AV), xs[i]? = some x → x.cells.length = k)
      (hf : ∀ (i : Nat) (x : AV) (j : Nat) (c : AV), xs[i]? = some x → x.cells[j]? = some c → s.fz b (o + i * k + j) = some (vs i j))
      (hv : ∀ (i : Nat) (x : AV) (j : Nat) (c : AV), xs[i]? = some x → x.cells[j]? = some c → VR s c (vs i j))
      (ho : ∀ t, g = .own t → o = 0)
      (ht : TagOk s g k xs.length (some b) cap) : VR s (.list g k xs) (.slice (some ⟨b, o, none⟩) xs.length cap)
  | ref (id ver off len b cap ver' : Nat) (b' : Option Nat) (n : Nat) (hl : s.loc id = some (.row ver' b' n)) (hv : ver ≤ ver') (hb : ver = ver' → b' = some b) (hc : len ≤ cap) (hz : ver = ver' → unitOf ver ≠ 0 → off + cap * unitOf ver ≤ n) :
      VR s (.ref id ver off len) (.slice (some ⟨b, off, none⟩) len cap)
  | ptr (id ver off b ver' : Nat) (b' : Option Nat) (n : Nat) (hl : s.loc id = some (.row ver' b' n)) (hv : ver ≤ ver') (hb : ver = ver' → b' = some b) :
      VR s (.ptr id ver off) (.pointer (some ⟨b, off, none⟩))
  | cptr (x : AV) (b o : Nat) (vs : Nat → Value) (h0 : 0 < x.cells.length)
      (hf : ∀ (j : Nat) (c : AV), x.cells[j]? = some c → s.fz b (o + j) = some (vs j))
      (hv : ∀ (j : Nat) (c : AV), x.cells[j]? = some c → VR s c (vs j)) : VR s (.cptr x) (.pointer (some ⟨b, o, none⟩))
  | nilptr : VR s .nilptr (.pointer none)
  | map (id b : Nat) (hl : s.loc id = some (.map b)) : VR s (.map id) (.map (some b))
  | nilmap : VR s .nilmap (.map none)
  | func (g : Nat) (first caps : List AV) (fs cs : List Value) (h1 : first.length = fs.length) (h2 : caps.length = cs.length)
      (hf : ∀ (i : Nat) (x : AV) (v : Value), first[i]? = some x → fs[i]? = some v → VR s x v) (hc : ∀ (i : Nat) (x : AV) (v : Value), caps[i]? = some x → cs[i]? = some v → VR s x v) (hg : g < yb) :
      VR s (.func g first caps) (.func (.func g) fs.toArray cs.toArray)
  | yield (id l : Nat) (hl : s.loc id = some (.loop l)) : VR s (.yield id) (.func (.yield l) #[] #[])
  | nilfunc : VR s .nilfunc .nilFunc
  | iface (t : Nat) (x : AV) (v : Value) (h : VR s x v) : VR s (.iface t x) (.iface t v)
  | niliface : VR s .niliface .nilIface
  | agg (xs : List AV) (vs : List Value) (hl : xs.length = vs.length) (ho : ∀ v ∈ vs, one v = true) (h : ∀ (i : Nat) (x : AV) (v : Value), xs[i]? = some x → vs[i]? = some v → VR s x v) :
      VR s (.agg xs) (.agg vs.toArray)
  | tuple (xs : List AV) (vs : List Value) (hl : xs.length = vs.length) (h : ∀ (i : Nat) (x : AV) (v : Value), xs[i]? = some x → vs[i]? = some v → VR s x v) :
      VR s (.tuple xs) (.tuple vs.toArray)

theorem VR.mono0 {s s' : Sim} (hs : s.le0 s') {x : AV} {v : Value} (h : VR s x v) : VR s' x v := by
  induction h with
  | bool b => exact .bool b
  | int k n => exact .int k n
  | str x => exact .str x
  | nil g k ht => exact .nil g k (ht.mono hs)
  | void g k a hg => exact .void g k a hg
  | list g k xs b o cap vs hcap hk hf hv ho ht ih =>
    exact .list g k xs b o cap vs hcap hk (fun i x j c h1 h2 => hs.fz _ _ _ (hf i x j c h1 h2)) ih ho (ht.mono hs)
  | ref id ver off len b cap ver' b' n hl hv hb hc hz =>
    obtain ⟨l', hl', hll⟩ := hs.loc id _ hl
    cases l' with
    | row v2 b2 n2 =>
      obtain ⟨h1, h2⟩ := hll
      exact .ref id ver off len b cap v2 b2 n2 hl' (Nat.le_trans hv h1) (fun e => (h2 (by omega)).1.symm.trans (hb (by omega))) hc (fun e hu => by rw [← (h2 (by omega)).2]; exact hz (by omega) hu)
    | map _ => exact hll.elim
    | loop _ => exact hll.elim
    | tip _ _ _ _ => exact hll.elim
  | ptr id ver off b ver' b' n hl hv hb =>
    obtain ⟨l', hl', hll⟩ := hs.loc id _ hl
    cases l' with
    | row v2 b2 n2 =>
      obtain ⟨h1, h2⟩ := hll
      exact .ptr id ver off b v2 b2 n2 hl' (Nat.le_trans hv h1) (fun e => (h2 (by omega)).1.symm.trans (hb (by omega)))
    | map _ => exact hll.elim
    | loop _ => exact hll.elim
    | tip _ _ _ _ => exact hll.elim
  | cptr x b o vs h0 hf hv ih => exact .cptr x b o vs h0 (fun j c h => hs.fz _ _ _ (hf j c h)) ih
  | nilptr => exact .nilptr
  | map id b hl =>
    obtain ⟨l', hl', hll⟩ := hs.loc id _ hl
    cases l' with
    | row _ _ _ => exact hll.elim
    | loop _ => exact hll.elim
    | map b2 => exact .map id b (by rw [hl', show b = b2 from hll])
    | tip _ _ _ _ => exact hll.elim
  | nilmap => exact .nilmap
  | func g first caps fs cs h1 h2 _ _ hg ih1 ih2 => exact .func g first caps fs cs h1 h2 ih1 ih2 hg
  | yield id l hl => exact .yield id l (hs.loop hl)
  | nilfunc => exact .nilfunc
  | iface t x v _ ih => exact .iface t x v ih
  | niliface => exact .niliface
  | agg xs vs hl ho _ ih => exact .agg xs vs hl ho ih
  | tuple xs vs hl _ ih => exact .tuple xs vs hl ih

theorem VR.mono {s s' : Sim} (hs : s.le s') {x : AV} {v : Value} (h : VR s x v) : VR s' x v := h.mono0 hs.to0

/-- Only the objects below n. -/
def Sim.cut (s : Sim) (n : Nat) : Sim := { s with loc := fun id => if id < n then s.loc id else none }

theorem underAll_get {n : Nat} {xs : List AV} (h : AV.underAll n xs = true) {i : Nat} {x : AV} (hx : xs[i]? = some x) : AV.under n x = true := by
  induction xs generalizing i with
  | nil => simp at hx
  | cons y ys ih =>
    simp only [AV.underAll, Bool.and_eq_true] at h
    cases i with
    | zero => simp at hx; exact hx ▸ h.1
    | succ i => exact ih h.2 (by simpa using hx)

theorem underAll_of {n : Nat} {xs : List AV} (h : ∀ (i : Nat) (x : AV), xs[i]? = some x → AV.under n x = true) : AV.underAll n xs = true := by
  induction xs with
  | nil => rfl
  | cons y ys ih =>
    simp only [AV.underAll, Bool.and_eq_true]
    exact ⟨h 0 y rfl, ih fun i x hx => h (i + 1) x (by simpa using hx)⟩

theorem under_cells {n : Nat} {x : AV} (h : AV.under n x = true) {j : Nat} {c : AV} (hc : x.cells[j]? = some c) : AV.under n c = true := by
  cases x <;> simp only [AV.cells] at hc
  case agg xs => rw [AV.under] at h; exact underAll_get h hc
  all_goals
    cases j with
    | zero => simp only [List.getElem?_cons_zero, Option.some.injEq] at hc; exact hc ▸ h
    | succ j => simp at hc

theorem VR.cut {s : Sim} {n : Nat} {x : AV} {v : Value} (h : VR s x v) (hu : AV.under n x = true) : VR (s.cut n) x v := by
  induction h with
  | bool b => exact .bool b
  | int k n => exact .int k n
  | str x => exact .str x
  | nil g k ht =>
    refine .nil g k ?_
    cases g with
    | shared => trivial
    | full => exact ht
    | nil => exact ht
    | non => exact ht
    | own t =>
      simp only [AV.under, Bool.and_eq_true, decide_eq_true_eq] at hu
      obtain ⟨n', k', a', cap', hl, rest⟩ := ht
      exact ⟨n', k', a', cap', by simp [Sim.cut, hu.1, hl], rest⟩
  | void g k a hg => exact .void g k a hg
  | list g k xs b o cap vs hcap hk hf hv ho ht ih =>
    have hx : AV.underAll n xs = true := by
      cases g <;> simp only [AV.under, Bool.and_eq_true] at hu
      · exact hu
      · exact hu
      · exact hu.2
      · exact hu
      · exact hu
    refine .list g k xs b o cap vs hcap hk hf (fun i x j c h1 h2 => ih i x j c h1 h2 (under_cells (underAll_get hx h1) h2)) ho ?_
    cases g with
    | shared => trivial
    | full => exact ht
    | nil => exact ht
    | non => exact ht
    | own t =>
      simp only [AV.under, Bool.and_eq_true, decide_eq_true_eq] at hu
      obtain ⟨n', k', a', cap', hl, rest⟩ := ht
      exact ⟨n', k', a', cap', by simp [Sim.cut, hu.1, hl], rest⟩
  | ref id ver off len b cap ver' b' n hl hv hb hc hz =>
    simp only [AV.under, decide_eq_true_eq] at hu
    exact .ref id ver off len b cap ver' b' n (by simp [Sim.cut, hu, hl]) hv hb hc hz
  | ptr id ver off b ver' b' n hl hv hb =>
    simp only [AV.under, decide_eq_true_eq] at hu
    exact .ptr id ver off b ver' b' n (by simp [Sim.cut, hu, hl]) hv hb
  | cptr x b o vs h0 hf hv ih =>
    simp only [AV.under] at hu
    exact .cptr x b o vs h0 hf fun j c h => ih j c h (under_cells hu h)
  | nilptr => exact .nilptr
  | map id b hl =>
    simp only [AV.under, decide_eq_true_eq] at hu
    exact .map id b (by simp [Sim.cut, hu, hl])
  | nilmap => exact .nilmap
  | func g first caps fs cs h1 h2 _ _ hg ih1 ih2 =>
    simp only [AV.under, Bool.and_eq_true] at hu
    exact .func g first caps fs cs h1 h2 (fun i x v hx hv => ih1 i x v hx hv (underAll_get hu.1 hx)) (fun i x v hx hv => ih2 i x v hx hv (underAll_get hu.2 hx)) hg
  | yield id l hl =>
    simp only [AV.under, decide_eq_true_eq] at hu
    exact .yield id l (by simp [Sim.cut, hu, hl])
  | nilfunc => exact .nilfunc
  | iface t x v _ ih =>
    simp only [AV.under] at hu
    exact .iface t x v (ih hu)
  | niliface => exact .niliface
  | agg xs vs hl ho _ ih =>
    simp only [AV.under] at hu
    exact .agg xs vs hl ho fun i x v hx hv => ih i x v hx hv (underAll_get hu hx)
  | tuple xs vs hl _ ih =>
    simp only [AV.under] at hu
    exact .tuple xs vs hl fun i x v hx hv => ih i x v hx hv (underAll_get hu hx)

theorem VR.one {s : Sim} {x : AV} {v : Value} (h : VR s x v) (h1 : ∀ xs, x ≠ .agg xs) (h2 : ∀ xs, x ≠ .tuple xs) : one v = true := by
  cases h <;> first | rfl | (exact absurd rfl (h1 _)) | (exact absurd rfl (h2 _))

/-- The cells of a value. -/
theorem VR.cells {s : Sim} {x : AV} {v : Value} (h : VR s x v) : x.cells.length = v.cells.size ∧ ∀ (i : Nat) (c : AV) (u : Value), x.cells[i]? = some c → v.cells[i]? = some u → VR s c u := by
  cases h with
  | agg xs vs hl ho h => exact ⟨by simpa [AV.cells, Value.cells] using hl, fun i c u h1 h2 => h i c u h1 (by simpa [Value.cells] using h2)⟩
  | _ =>
    refine ⟨rfl, fun i c u h1 h2 => ?_⟩
    cases i with
    | zero =>
      simp only [AV.cells, Value.cells, List.getElem?_cons_zero, Option.some.injEq, List.getElem?_toArray] at h1 h2
      subst h1; subst h2
      constructor <;> assumption
    | succ i => simp [AV.cells] at h1

theorem VR.cells_one {s : Sim} {x : AV} {v : Value} (h : VR s x v) (h2 : ∀ xs, x ≠ .tuple xs) : ∀ u ∈ v.cells.toList, Am.one u = true := by
  cases h with
  | agg xs vs hl ho h => simpa [Value.cells] using ho
  | tuple xs vs => exact absurd rfl (h2 _)
  | _ => simp [Value.cells, Am.one]

theorem VR.untag1 {s : Sim} {x : AV} {v : Value} (h : VR s x v) : VR s x.untag1 v := by
  cases h with
  | nil g k ht => exact .nil .shared k trivial
  | void g k a hg => exact .void .shared k a (.inl rfl)
  | list g k xs b o cap vs hcap hk hf hv ho ht => exact .list .shared k xs b o cap vs hcap hk hf hv (fun t e => by cases e) trivial
  | _ => simp only [AV.untag1]; constructor <;> assumption

theorem VR.untag {s : Sim} {x : AV} {v : Value} (h : VR s x v) : VR s x.untag v := by
  cases h with
  | nil g k ht => exact .nil .shared k trivial
  | void g k a hg => exact .void .shared k a (.inl rfl)
  | list g k xs b o cap vs hcap hk hf hv ho ht => exact .list .shared k xs b o cap vs hcap hk hf hv (fun t e => by cases e) trivial
  | agg xs vs hl ho h =>
    refine .agg _ vs (by simpa using hl) ho fun i x v hx hv => ?_
    simp only [List.getElem?_map, Option.map_eq_some_iff] at hx
    obtain ⟨y, hy, rfl⟩ := hx
    exact (h i y v hy hv).untag1
  | tuple xs vs hl h =>
    refine .tuple _ vs (by simpa using hl) fun i x v hx hv => ?_
    simp only [List.getElem?_map, Option.map_eq_some_iff] at hx
    obtain ⟨y, hy, rfl⟩ := hx
    have hy' := h i y v hy hv
    cases y with
    | agg ys =>
      cases hy' with
      | agg _ vs' hl' ho' h' =>
        refine .agg _ vs' (by simpa using hl') ho' fun i x v hx hv => ?_
        simp only [List.getElem?_map, Option.map_eq_some_iff] at hx
        obtain ⟨z, hz, rfl⟩ := hx
        exact (h' i z v hz hv).untag1
    | _ => exact hy'.untag1
  | _ => simp only [AV.untag]; constructor <;> assumption

theorem cells_untag (x : AV) : x.untag.cells.length = x.cells.length := by
  cases x <;> simp [AV.untag, AV.cells]

def LR (s : Sim) (L : Env) (tmps : Array Value) : Prop := ∀ t v, L.get t = some v → t < tmps.size ∧ VR s v (tmps.getD t undef)

theorem LR.mono0 {s s' : Sim} (h : s.le0 s') {L : Env} {tmps : Array Value} (hl : LR s L tmps) : LR s' L tmps :=
  fun t v e => ⟨(hl t v e).1, (hl t v e).2.mono0 h⟩

theorem LR.mono {s s' : Sim} (h : s.le s') {L : Env} {tmps : Array Value} (hl : LR s L tmps) : LR s' L tmps :=
  fun t v e => ⟨(hl t v e).1, (hl t v e).2.mono h⟩


theorem get_mem {e : Env} {t : Nat} {v : AV} (h : e.get t = some v) : (t, v) ∈ e := by
  induction e with
  | nil => simp [Env.get] at h
  | cons x e ih =>
    obtain ⟨s', y⟩ := x
    simp only [Env.get] at h
    split at h
    · rename_i e1; subst e1
      simp only [Option.some.injEq] at h; subst h
      exact List.mem_cons_self
    · exact List.mem_cons_of_mem _ (ih h)

theorem underAll_mem {n : Nat} {e : Env} (hu : AV.underAll n (e.map (·.2)) = true) {t : Nat} {v : AV} (h : (t, v) ∈ e) : AV.under n v = true := by
  obtain ⟨i, hi⟩ := List.getElem?_of_mem h
  exact underAll_get hu (i := i) (by simp [hi])

theorem LR.cut {s : Sim} {n : Nat} {e : Env} {tmps : Array Value} (h : LR s e tmps) (hu : AV.underAll n (e.map (·.2)) = true) : LR (s.cut n) e tmps :=
  fun t v hv => ⟨(h t v hv).1, (h t v hv).2.cut (underAll_mem hu (get_mem hv))⟩

/-- Of each entry. -/
def LRA (s : Sim) (L : Env) (tmps : Array Value) : Prop := ∀ t v, (t, v) ∈ L → t < tmps.size ∧ VR s v (tmps.getD t undef)

theorem LRA.lr {s : Sim} {e : Env} {tmps : Array Value} (h : LRA s e tmps) : LR s e tmps := fun t v hv => h t v (get_mem hv)
theorem LRA.mono0 {s s' : Sim} (h : s.le0 s') {L : Env} {tmps : Array Value} (hl : LRA s L tmps) : LRA s' L tmps := fun t v e => ⟨(hl t v e).1, (hl t v e).2.mono0 h⟩
theorem LRA.mono {s s' : Sim} (h : s.le s') {L : Env} {tmps : Array Value} (hl : LRA s L tmps) : LRA s' L tmps := hl.mono0 h.to0
theorem LRA.cut {s : Sim} {n : Nat} {e : Env} {tmps : Array Value} (h : LRA s e tmps) (hu : AV.underAll n (e.map (·.2)) = true) : LRA (s.cut n) e tmps :=
  fun t v hv => ⟨(h t v hv).1, (h t v hv).2.cut (underAll_mem hu hv)⟩

theorem LR.keepA {s : Sim} {e : Env} {tmps : Array Value} (h : LR s e tmps) : ∀ (ts : List Nat), LRA s (e.keep ts) tmps := by
  intro ts
  induction ts with
  | nil => intro t v hv; simp [Env.keep] at hv
  | cons t ts ih =>
    intro u x hx
    simp only [Env.keep] at hx
    split at hx
    · rename_i v hv
      rcases List.mem_cons.1 hx with h1 | h1
      · simp only [Prod.mk.injEq] at h1
        obtain ⟨rfl, rfl⟩ := h1
        exact h _ _ hv
      · exact ih u x h1
    · exact ih u x hx

/-- A jump, as the model's record keeps it. -/
def X.pend : X → Option Code
  | .nrm => none
  | .ret => some .ret
  | .ext id => some (.exit id)

def StOk (r : Loop) : LS → Prop
  | .ready => r.state = .ready ∧ r.pending = none
  | .busy => r.state = .busy
  | .done x => r.state = .done ∧ r.pending = x.pend ∧ x ≠ .nrm

/-- How a memory's object stands. -/
def OR (w0 : Base) (s : Sim) (w : World) (id : Nat) : AObj → Prop
  | .row ver cs => ∃ b c e, s.loc id = some (.row ver (some b) c.size) ∧ w.heap[b]? = some (.cells c e (0, 0)) ∧ cs.length ≤ c.size ∧
      (∀ (i : Nat) (x : AV) (v : Value), cs[i]? = some x → c[i]? = some v → VR s x v ∧ one v = true) ∧ ∀ o, s.fz b o = none
  | .map es => ∃ b mes clock, s.loc id = some (.map b) ∧ w.heap[b]? = some (.map mes clock) ∧ mes.size = es.length ∧ (clock = mes.size ∧ ∀ (i : Nat) (m : MapEntry), mes[i]? = some m → m.born = i) ∧
      ∀ (i : Nat) (e : AV × AV) (m : MapEntry), es[i]? = some e → mes[i]? = some m → VR s e.1 m.key ∧ VR s e.2 m.val
  | .tip n => ∃ k a cap, s.loc id = some (.tip n k a cap) ∧
      match a with
      | none => n = 0 ∧ cap = 0
      | some b => ∃ c e, w.heap[b]? = some (.cells c e (0, 0)) ∧ c.size = cap * k ∧ n ≤ cap ∧ 0 < k ∧ ∀ o, n * k ≤ o → s.fz b o = none
  | .dead => ∃ ver n, s.loc id = some (.row ver none n)
  | .loop ps as body env st => ∃ l r nt, s.loc id = some (.loop l) ∧ w.heap[l]? = some (.loop r) ∧ r.params.toList = ps ∧ w0.okc nt r.assign as ∧ w0.okc nt r.body body ∧ nt ≤ r.tmps.size ∧ (∀ p ∈ ps, p < nt) ∧ ps.Nodup ∧ LRA s env r.tmps ∧ StOk r st
  | .gone => ∃ l r, s.loc id = some (.loop l) ∧ w.heap[l]? = some (.loop r)
  | .iter mid n seen => ∃ b mb, s.loc id = some (.row 0 (some b) 0) ∧ w.heap[b]? = some (.mapIter (some mb) n (if seen then #[0] else #[]) n) ∧ s.loc mid = some (.map mb) ∧ n ≤ 1
  | .siter x pos => ∃ b, s.loc id = some (.row 0 (some b) 0) ∧ w.heap[b]? = some (.stringIter x pos)

def Loc.block : Loc → Option Nat
  | .row _ b _ => b
  | .map b => some b
  | .tip _ _ a _ => a
  | .loop l => some l

structure MR (w0 : Base) (s : Sim) (M : Mem) (w : World) : Prop where
  below : Below w0.heap.size w0 w
  fz : ∀ b o v, s.fz b o = some v → w.cell? ⟨b, o, none⟩ = some v ∧ one v = true
  dom : ∀ id, M.objs.length ≤ id → s.loc id = none
  obj : ∀ id o, M.objs[id]? = some o → OR w0 s w id o
  inj : ∀ i j l l' b, s.loc i = some l → s.loc j = some l' → l.block = some b → l'.block = some b → i = j
  own : ∀ i l b, s.loc i = some l → l.block = some b → w0.heap.size ≤ b
  defs : ∀ d, s.defs d → w0.heap.size ≤ d ∧ w.heap[d]? = some (.deferred (some []))
  old : ∀ b o v, b < w0.heap.size → s.fz b o = some v → w0.fz0 b o = some v
  held : ∀ b o, w0.held b = some o → w0.heap.size ≤ b ∧ w.heap[b]? = some o ∧ (∀ id l, s.loc id = some l → l.block ≠ some b) ∧ (∀ x, s.fz b x = none) ∧ ¬ s.defs b

theorem bad_irrel {w0 : Base} {s : Sim} {M : Mem} {w : World} (h : MR w0 s M w) (b : Option Nat) : MR w0 s { M with bad := b } w :=
  ⟨h.below, h.fz, h.dom, h.obj, h.inj, h.own, h.defs, h.old, h.held⟩

end Go.Am
