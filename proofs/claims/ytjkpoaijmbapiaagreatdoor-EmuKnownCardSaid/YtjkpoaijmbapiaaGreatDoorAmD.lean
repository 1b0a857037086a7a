/- An abstract machine for the part of Go that this program uses: closed calls, told by the kernel, of functions that stand in a tree. -/
import Derived.Test.YtjkpoaijmbapiaaGreatDoorAmK
import Derived.KernelRfl
import Derived.Test.YtjkpoaijmbapiaaGreatDoorAmIn
namespace Go.Am
set_option linter.all false
open Go

/-- Functions by their numbers. -/
inductive FT where
  | leaf
  | node (k : Nat) (fn : IFn) (l r : FT)
  | join (k : Nat) (l r : FT)

noncomputable def FT.get (t : FT) (f : Nat) : Option IFn :=
  FT.rec (motive := fun _ => Option IFn) none (fun k fn _ _ l r => Bool.rec (Bool.rec r l (Nat.ble f k)) (some fn) (Nat.beq f k)) (fun k _ _ l r => Bool.rec r l (Nat.ble f k)) t

def FT.all (p : Nat → IFn → Bool) : FT → Bool
  | .leaf => true
  | .node k fn l r => p k fn && (l.all p && r.all p)
  | .join _ l r => l.all p && r.all p

theorem FT.all_join {p : Nat → IFn → Bool} {k : Nat} {l r : FT} (h1 : l.all p = true) (h2 : r.all p = true) : (FT.join k l r).all p = true := by simp [FT.all, h1, h2]

theorem FT.get_all {p : Nat → IFn → Bool} {f : Nat} {fn : IFn} : ∀ {t : FT}, t.all p = true → t.get f = some fn → p f fn = true := by
  intro t
  induction t with
  | leaf => intro _ h; cases h
  | node k g l r ihl ihr =>
    intro ha h
    simp only [FT.all, Bool.and_eq_true] at ha
    have e : (FT.node k g l r).get f = Bool.rec (Bool.rec (r.get f) (l.get f) (Nat.ble f k)) (some g) (Nat.beq f k) := rfl
    rw [e] at h
    cases hb : Nat.beq f k with
    | true =>
      rw [hb] at h
      have := Nat.eq_of_beq_eq_true hb
      subst this
      cases h
      exact ha.1
    | false =>
      rw [hb] at h
      cases hc : Nat.ble f k with
      | true => rw [hc] at h; exact ihl ha.2.1 h
      | false => rw [hc] at h; exact ihr ha.2.2 h
  | join k l r ihl ihr =>
    intro ha h
    simp only [FT.all, Bool.and_eq_true] at ha
    have e : (FT.join k l r).get f = Bool.rec (r.get f) (l.get f) (Nat.ble f k) := rfl
    rw [e] at h
    cases hc : Nat.ble f k with
    | true => rw [hc] at h; exact ihl ha.1 h
    | false => rw [hc] at h; exact ihr ha.2 h

abbrev Orc := Nat → List AV → Mem → Option (AV × Mem)

/-- The functions, with what is told of them. -/
noncomputable def FT.tab (o : Orc) (t : FT) (f : Nat) : Option IFn :=
  match t.get f with
  | some fn => some { fn with orc := o f }
  | none => none

/-- A call, by the functions of the tree. -/
noncomputable def callD (o : Orc) (t : FT) : Nat → Nat → List AV → Mem → Rho
  | 0, _, _, _ => none
  | n + 1, f, args, M => match o f args M with
    | some r => some r
    | none => match t.get f with
      | some fn => cond (Nat.beq (llen args) fn.params) (bodyK (callD o t n) n fn args M) none
      | none => cond (Nat.ble yb f) (runYield (evC (callD o t n) n) (f - yb) args M) none

theorem callD_le {o : Orc} {t : FT} (ho : ∀ f, t.get f = none → ∀ args M, o f args M = none) : ∀ n, Fun.le (callD o t n) (callN (t.tab o) n) := by
  intro n
  induction n with
  | zero => intro f args M r h; cases h
  | succ n ih =>
    intro f args M r h
    simp only [callD] at h
    simp only [callN, FT.tab]
    cases hg : t.get f with
    | none =>
      rw [ho f hg, hg] at h
      simp only at h ⊢
      cases hb : Nat.ble yb f with
      | true =>
        rw [hb, cond_true] at h
        rw [if_pos (Nat.le_of_ble_eq_true hb)]
        exact runYield_mono (fun c e M r h => evC_mono ih (Nat.le_refl _) h) h
      | false => rw [hb, cond_false] at h; cases h
    | some fn =>
      rw [hg] at h
      simp only at h ⊢
      cases hr : o f args M with
      | some r' =>
        rw [hr] at h
        unfold runFn
        simp only [hr]
        exact h
      | none =>
        rw [hr] at h
        simp only [llen_eq] at h
        cases hb : Nat.beq args.length fn.params with
        | false => rw [hb, cond_false] at h; cases h
        | true =>
          rw [hb, cond_true] at h
          have hl := Nat.eq_of_beq_eq_true hb
          refine runFn_mono (fun c e M r h => evC_mono ih (Nat.le_refl _) h) (bodyK_le (fn := { fn with orc := o f }) hr hl r ?_)
          exact h

theorem tab_some {o : Orc} {t : FT} {f : Nat} {fn : IFn} (h : t.tab o f = some fn) : ∃ g, t.get f = some g ∧ fn = { g with orc := o f } := by
  unfold FT.tab at h
  split at h
  · rename_i g hg
    simp only [Option.some.injEq] at h
    exact ⟨g, hg, h.symm⟩
  · cases h

theorem tab_ok {P : Program} {o : Orc} {t : FT} (ht : t.all (okFn P) = true) : ∀ f fn, t.tab o f = some fn → okFn P f fn = true := by
  intro f fn h
  obtain ⟨g, hg, rfl⟩ := tab_some h
  have h1 : okFn P f g = true := FT.get_all ht hg
  unfold okFn at h1 ⊢
  exact h1

/-- What is told is so. -/
def OrcsOk (P : Program) (tabs : World → Prop) (o : Orc) (t : FT) : Prop := ∀ f fn, t.tab o f = some fn → OrcSound P (okc0 P tabs) f fn

/-- One function more is told of. -/
def Orc.put (o : Orc) (g : Nat) (x : List AV → Mem → Option (AV × Mem)) : Orc := fun f => cond (Nat.beq f g) x (o f)

theorem orcs_put {P : Program} {tabs : World → Prop} {o : Orc} {t : FT} {g : Nat} {x : List AV → Mem → Option (AV × Mem)} (h : OrcsOk P tabs o t) (hx : ∀ fn : IFn, t.get g = some fn → fn.orc = fn.orc → OrcSound P (okc0 P tabs) g { fn with orc := x }) : OrcsOk P tabs (o.put g x) t := by
  intro f fn hf
  obtain ⟨g', hg, rfl⟩ := tab_some hf
  cases hb : Nat.beq f g with
  | true =>
    have := Nat.eq_of_beq_eq_true hb
    subst this
    have e : (o.put f x) f = x := by simp [Orc.put]
    rw [e]
    exact hx g' hg rfl
  | false =>
    have e : (o.put g x) f = o f := by simp [Orc.put, hb]
    rw [e]
    refine h f _ ?_
    unfold FT.tab
    rw [hg]

/-- The same, evaluated while less was told. -/
theorem orcs_table2 {P : Program} {tabs : World → Prop} (hmix : P.follows .mixedOrders = true) {o o' : Orc} {t : FT} {g : Nat} {tb : List (List AV × AV)} (ht : t.all (okFn P) = true) (hn : ∀ f, t.get f = none → ∀ args M, o f args M = none) (h : OrcsOk P tabs o t) (h' : OrcsOk P tabs o' t) (hg : g < yb)
    (hx : ∀ p ∈ tb, AV.underAll 0 p.1 = true ∧ ∃ n b, callD o t n g p.1 ⟨[], none⟩ = some (p.2, ⟨[], b⟩)) : OrcsOk P tabs (o'.put g (orcT tb)) t :=
  orcs_put h' fun _ _ _ => orcT_sound hmix (tab_ok ht) h hg rfl fun p hp => by
    obtain ⟨h1, n, b, h2⟩ := hx p hp
    exact ⟨h1, n, b, callD_le hn n _ _ _ _ h2⟩

theorem orcs_put_none {o : Orc} {t : FT} {g : Nat} {x : List AV → Mem → Option (AV × Mem)} (hn : ∀ f, t.get f = none → ∀ args M, o f args M = none) (hg : (t.get g).isSome = true) : ∀ f, t.get f = none → ∀ args M, (o.put g x) f args M = none := by
  intro f hf args M
  cases hb : Nat.beq f g with
  | true =>
    have := Nat.eq_of_beq_eq_true hb
    subst this
    rw [hf] at hg; cases hg
  | false => simp only [Orc.put, hb, cond_false]; exact hn f hf args M

end Go.Am
namespace Go.Am
set_option linter.all false
open Go

def optEq : Option Nat → Option Nat → Bool
  | none, none => true
  | some a, some b => Nat.beq a b
  | _, _ => false
theorem optEq_eq {a b : Option Nat} (h : optEq a b = true) : a = b := by
  cases a <;> cases b <;> first | rfl | (cases h; done) | skip
  rename_i a b
  rw [Nat.eq_of_beq_eq_true (show Nat.beq a b = true from h)]

def beqPairs : List (AV × AV) → List (AV × AV) → Bool
  | [], [] => true
  | (a, b) :: xs, (c, d) :: ys => cond (AV.beq a c) (cond (AV.beq b d) (beqPairs xs ys) false) false
  | _, _ => false
theorem beqPairs_eq : ∀ {xs ys : List (AV × AV)}, beqPairs xs ys = true → xs = ys := by
  intro xs
  induction xs with
  | nil => intro ys h; cases ys with
    | nil => rfl
    | cons y ys => cases h
  | cons x xs ih =>
    intro ys h
    cases ys with
    | nil => cases h
    | cons y ys =>
      obtain ⟨a, b⟩ := x
      obtain ⟨c, d⟩ := y
      have h' : cond (AV.beq a c) (cond (AV.beq b d) (beqPairs xs ys) false) false = true := h
      cases h1 : AV.beq a c with
      | false => rw [h1] at h'; cases h'
      | true =>
        cases h2 : AV.beq b d with
        | false => rw [h1, h2] at h'; cases h'
        | true =>
          rw [h1, h2] at h'
          rw [beq_eq _ _ h1, beq_eq _ _ h2, ih h']

/-- Objects are the same; of a loop's it is not told. -/
def AObj.beq : AObj → AObj → Bool
  | .row v cs, .row v' cs' => cond (Nat.beq v v') (AV.beqs cs cs') false
  | .map es, .map es' => beqPairs es es'
  | .tip n, .tip n' => Nat.beq n n'
  | .dead, .dead => true
  | .gone, .gone => true
  | _, _ => false
theorem AObj.beq_eq {x y : AObj} (h : AObj.beq x y = true) : x = y := by
  cases x <;> cases y <;> first | rfl | (cases h; done) | skip
  · rename_i v cs v' cs'
    have h' : cond (Nat.beq v v') (AV.beqs cs cs') false = true := h
    cases h1 : Nat.beq v v' with
    | false => rw [h1] at h'; cases h'
    | true => rw [h1] at h'; rw [Nat.eq_of_beq_eq_true h1, beqs_eq _ _ h']
  · rw [beqPairs_eq (show beqPairs _ _ = true from h)]
  · rw [Nat.eq_of_beq_eq_true (show Nat.beq _ _ = true from h)]

def beqObjs : List AObj → List AObj → Bool
  | [], [] => true
  | x :: xs, y :: ys => cond (AObj.beq x y) (beqObjs xs ys) false
  | _, _ => false
theorem beqObjs_eq : ∀ {xs ys : List AObj}, beqObjs xs ys = true → xs = ys := by
  intro xs
  induction xs with
  | nil => intro ys h; cases ys with
    | nil => rfl
    | cons y ys => cases h
  | cons x xs ih =>
    intro ys h
    cases ys with
    | nil => cases h
    | cons y ys =>
      have h' : cond (AObj.beq x y) (beqObjs xs ys) false = true := h
      cases h1 : AObj.beq x y with
      | false => rw [h1] at h'; cases h'
      | true => rw [h1] at h'; rw [AObj.beq_eq h1, ih h']

/-- A table of calls that were evaluated with their memory: arguments, memory, answer, memory. -/
def orcM (t : List ((List AV × Mem) × AV × Mem)) (args : List AV) (M : Mem) : Option (AV × Mem) :=
  match t with
  | [] => none
  | ((a, m), r) :: t => cond (AV.beqs a args) (cond (optEq m.bad M.bad) (cond (beqObjs m.objs M.objs) (some r) (orcM t args M)) (orcM t args M)) (orcM t args M)

theorem orcM_some {t : List ((List AV × Mem) × AV × Mem)} {args : List AV} {M : Mem} {r : AV × Mem} (h : orcM t args M = some r) : ((args, M), r) ∈ t := by
  induction t with
  | nil => cases h
  | cons p t ih =>
    obtain ⟨⟨a, m⟩, r'⟩ := p
    simp only [orcM] at h
    cases h1 : AV.beqs a args with
    | false => rw [h1, cond_false] at h; exact List.mem_cons_of_mem _ (ih h)
    | true =>
      cases h2 : optEq m.bad M.bad with
      | false => rw [h1, h2, cond_true, cond_false] at h; exact List.mem_cons_of_mem _ (ih h)
      | true =>
        cases h3 : beqObjs m.objs M.objs with
        | false => rw [h1, h2, h3] at h; exact List.mem_cons_of_mem _ (ih h)
        | true =>
          rw [h1, h2, h3] at h
          cases h
          rw [beqs_eq _ _ h1]
          have : m = M := by
            cases m; cases M
            simp only at h2 h3
            rw [beqObjs_eq h3, optEq_eq h2]
          rw [this]
          exact List.mem_cons_self

theorem orcs_tableM {P : Program} {tabs : World → Prop} (hmix : P.follows .mixedOrders = true) {o o' : Orc} {t : FT} {g : Nat} {tb : List ((List AV × Mem) × AV × Mem)} (ht : t.all (okFn P) = true) (hn : ∀ f, t.get f = none → ∀ args M, o f args M = none) (h : OrcsOk P tabs o t) (h' : OrcsOk P tabs o' t) (hg : g < yb)
    (hx : ∀ p ∈ tb, ∃ n, callD o t n g p.1.1 p.1.2 = some p.2) : OrcsOk P tabs (o'.put g (orcM tb)) t :=
  orcs_put h' fun _ _ _ args M r M' hr => by
    obtain ⟨n, h2⟩ := hx _ (orcM_some hr)
    have h3 := callD_le hn n _ _ _ _ h2
    refine ⟨callN_keeps (T := t.tab o) (fun f fn hf args M r M' e => (h f fn hf args M r M' e).1) n _ _ _ _ _ h3, fun w0 hw0 s w vs hm hl hv => ?_⟩
    exact ((callN_sound (w0 := w0) hmix (tab_ok ht) (by rw [hw0]; exact h) (fun _ _ _ => by rw [show w0.okc = (okc0 P tabs).1 from congrArg Prod.fst hw0]; exact Iff.rfl) n _ rfl _ args _ _ _ h3).1 hg).2 s w vs hm hl hv

/-- Cells, some of them changed (after so many that are not), and new ones. -/
def updC : List AV → List (Nat × AV) → List AV → List AV
  | [], _, nw => nw
  | a :: t, [], nw => a :: updC t [] nw
  | _ :: t, (0, x) :: ch, nw => x :: updC t ch nw
  | a :: t, (g + 1, x) :: ch, nw => a :: updC t ((g, x) :: ch) nw

inductive Ch where
  | obj (o : AObj)
  | row (ver : Nat) (l : List (Nat × AV)) (nw : List AV)

def Ch.on (c : Ch) (o : AObj) : AObj :=
  match c with
  | .obj o => o
  | .row v l nw => match o with
    | .row _ cs => .row v (updC cs l nw)
    | o => o

/-- Objects, some of them changed (after so many that are not), and new ones. -/
def updO : List AObj → List (Nat × Ch) → List AObj → List AObj
  | [], _, nw => nw
  | a :: t, [], nw => a :: updO t [] nw
  | a :: t, (0, x) :: ch, nw => x.on a :: updO t ch nw
  | a :: t, (g + 1, x) :: ch, nw => a :: updO t ((g, x) :: ch) nw

/-- Two tables for one function: the one with memory first. -/
def orcTM (t : List (List AV × AV)) (tm : List ((List AV × Mem) × AV × Mem)) (args : List AV) (M : Mem) : Option (AV × Mem) :=
  match orcM tm args M with
  | some r => some r
  | none => orcT t args M

end Go.Am
