/- An abstract machine for the part of Go that this program uses: what its evaluator tells of a call, the model's call does. -/
import Derived.Test.YtjkpoaijmbapiaaGreatDoorAmRegE
import Derived.Test.YtjkpoaijmbapiaaGreatDoorAmInert
import Derived.LoopNIn
import Derived.RangeFuncNested
namespace Go.Am
set_option linter.all false
open Go Go.RowKit

mutual
theorem under_mono {n m : Nat} (h : n ≤ m) : ∀ (x : AV), AV.under n x = true → AV.under m x = true
  | .list (.own t) k xs, hu => by
    simp only [AV.under, Bool.and_eq_true, decide_eq_true_eq] at hu ⊢
    exact ⟨by omega, underAll_mono h xs hu.2⟩
  | .list .shared k xs, hu => by simp only [AV.under] at hu ⊢; exact underAll_mono h xs hu
  | .list .full k xs, hu => by simp only [AV.under] at hu ⊢; exact underAll_mono h xs hu
  | .list .nil k xs, hu => by simp only [AV.under] at hu ⊢; exact underAll_mono h xs hu
  | .list .non k xs, hu => by simp only [AV.under] at hu ⊢; exact underAll_mono h xs hu
  | .ref a b c d, hu => by simp only [AV.under, decide_eq_true_eq] at hu ⊢; omega
  | .ptr a b c, hu => by simp only [AV.under, decide_eq_true_eq] at hu ⊢; omega
  | .map a, hu => by simp only [AV.under, decide_eq_true_eq] at hu ⊢; omega
  | .cptr x, hu => by simp only [AV.under] at hu ⊢; exact under_mono h x hu
  | .func g xs ys, hu => by simp only [AV.under, Bool.and_eq_true] at hu ⊢; exact ⟨underAll_mono h xs hu.1, underAll_mono h ys hu.2⟩
  | .iface t x, hu => by simp only [AV.under] at hu ⊢; exact under_mono h x hu
  | .agg xs, hu => by simp only [AV.under] at hu ⊢; exact underAll_mono h xs hu
  | .tuple xs, hu => by simp only [AV.under] at hu ⊢; exact underAll_mono h xs hu
  | .bool _, _ => by simp [AV.under]
  | .int _ _, _ => by simp [AV.under]
  | .str _, _ => by simp [AV.under]
  | .nilptr, _ => by simp [AV.under]
  | .nilmap, _ => by simp [AV.under]
  | .nilfunc, _ => by simp [AV.under]
  | .yield a, hu => by simp only [AV.under, decide_eq_true_eq] at hu ⊢; omega
  | .niliface, _ => by simp [AV.under]
theorem underAll_mono {n m : Nat} (h : n ≤ m) : ∀ (xs : List AV), AV.underAll n xs = true → AV.underAll m xs = true
  | [], _ => rfl
  | x :: xs, hu => by
    simp only [AV.underAll, Bool.and_eq_true] at hu ⊢
    exact ⟨under_mono h x hu.1, underAll_mono h xs hu.2⟩
end

theorem oUnder_mono {n m : Nat} (h : n ≤ m) {o : AObj} (hu : o.under n = true) : o.under m = true := by
  cases o with
  | row v cs => exact underAll_mono h cs hu
  | map es =>
    simp only [AObj.under, List.all_eq_true, Bool.and_eq_true] at hu ⊢
    exact fun e he => ⟨under_mono h _ (hu e he).1, under_mono h _ (hu e he).2⟩
  | tip n => rfl
  | dead => rfl
  | loop _ _ _ env _ => exact underAll_mono h _ hu
  | gone => rfl
  | iter _ _ _ => simp only [AObj.under, decide_eq_true_eq] at hu ⊢; omega
  | siter _ _ => rfl

section
variable {P : Program} {w0 : Base}

theorem VR.under {s : Sim} {n : Nat} (hs : ∀ id l, s.loc id = some l → id < n) {x : AV} {v : Value} (h : VR s x v) : AV.under n x = true := by
  have cells : ∀ (xs : List AV), (∀ (i : Nat) (x : AV), xs[i]? = some x → AV.under n x = true) → AV.underAll n xs = true := fun xs h => underAll_of h
  have ofCells : ∀ (x : AV), (∀ (j : Nat) (c : AV), x.cells[j]? = some c → AV.under n c = true) → AV.under n x = true := fun x h => by
    cases x
    case agg xs => rw [AV.under]; exact cells xs fun i y hy => h i y hy
    all_goals exact h 0 _ rfl
  have tag : ∀ (g : Tag) (k len : Nat) (a : Option Nat) (cap : Nat) (xs : List AV), TagOk s g k len a cap → AV.underAll n xs = true → AV.under n (.list g k xs) = true := fun g k len a cap xs ht hx => by
    cases g with
    | shared => simpa [AV.under] using hx
    | full => simpa [AV.under] using hx
    | nil => simpa [AV.under] using hx
    | non => simpa [AV.under] using hx
    | own t =>
      obtain ⟨n', k', a', c', hl, _⟩ := ht
      simp only [AV.under, Bool.and_eq_true, decide_eq_true_eq]
      exact ⟨hs t _ hl, hx⟩
  induction h with
  | bool b => simp [AV.under]
  | int k n => simp [AV.under]
  | str x => simp [AV.under]
  | nil g k ht => exact tag g k _ _ _ [] ht rfl
  | void g k a hg => rcases hg with rfl | rfl <;> simp [AV.under, AV.underAll]
  | list g k xs b o cap vs hcap hk hf hv ho ht ih => exact tag g k _ _ _ xs ht (cells xs fun i x hx => ofCells x fun j c hc => ih i x j c hx hc)
  | ref id ver off len b cap ver' b' nz hl hv hb hc hz => simp only [AV.under, decide_eq_true_eq]; exact hs id _ hl
  | ptr id ver off b ver' b' nz hl hv hb => simp only [AV.under, decide_eq_true_eq]; exact hs id _ hl
  | cptr x b o vs h0 hf hv ih => rw [AV.under]; exact ofCells x ih
  | nilptr => simp [AV.under]
  | map id b hl => simp only [AV.under, decide_eq_true_eq]; exact hs id _ hl
  | nilmap => simp [AV.under]
  | func g first caps fs cs h1 h2 _ _ _ ih1 ih2 =>
    rw [AV.under, Bool.and_eq_true]
    exact ⟨cells first fun i x hx => ih1 i x (fs[i]'(by have := (List.getElem?_eq_some_iff.1 hx).1; omega)) hx (List.getElem?_eq_getElem _), cells caps fun i x hx => ih2 i x (cs[i]'(by have := (List.getElem?_eq_some_iff.1 hx).1; omega)) hx (List.getElem?_eq_getElem _)⟩
  | yield id l hl => simp only [AV.under, decide_eq_true_eq]; exact hs id _ hl
  | nilfunc => simp [AV.under]
  | iface t x v _ ih => rw [AV.under]; exact ih
  | niliface => simp [AV.under]
  | agg xs vs hl ho _ ih => rw [AV.under]; exact cells xs fun i x hx => ih i x (vs[i]'(by have := (List.getElem?_eq_some_iff.1 hx).1; omega)) hx (List.getElem?_eq_getElem _)
  | tuple xs vs hl _ ih => rw [AV.under]; exact cells xs fun i x hx => ih i x (vs[i]'(by have := (List.getElem?_eq_some_iff.1 hx).1; omega)) hx (List.getElem?_eq_getElem _)

theorem LRA.under {s : Sim} {n : Nat} (hs : ∀ id l, s.loc id = some l → id < n) {e : Env} {tmps : Array Value} (h : LRA s e tmps) : AV.underAll n (e.map (·.2)) = true := by
  refine underAll_of fun i x hx => ?_
  simp only [List.getElem?_map, Option.map_eq_some_iff] at hx
  obtain ⟨⟨t, v⟩, h1, rfl⟩ := hx
  exact (h t v (List.mem_of_getElem? h1)).2.under hs

theorem OR.under {s : Sim} {w : World} {n id : Nat} (hs : ∀ id l, s.loc id = some l → id < n) {o : AObj} (h : OR w0 s w id o) : o.under n = true := by
  cases o with
  | row ver cs =>
    obtain ⟨b, c, e, h1, h2, h3, h4, h5⟩ := h
    exact underAll_of fun i x hx => (h4 i x (c[i]'(by have := (List.getElem?_eq_some_iff.1 hx).1; omega)) hx (Array.getElem?_eq_getElem _)).1.under hs
  | map es =>
    obtain ⟨b, mes, clock, h1, h2, h3, h5, h4⟩ := h
    simp only [AObj.under, List.all_eq_true, Bool.and_eq_true]
    intro e he
    obtain ⟨i, hi, rfl⟩ := List.mem_iff_getElem.1 he
    have hlt : i < mes.size := by omega
    obtain ⟨g1, g2⟩ := h4 i es[i] mes[i] (List.getElem?_eq_getElem hi) (Array.getElem?_eq_getElem hlt)
    exact ⟨g1.under hs, g2.under hs⟩
  | tip n => rfl
  | dead => rfl
  | loop ps as body env st =>
    obtain ⟨l, r, nt, h1, h2, q1, q2, q3, q4, q5, q6, q7, q8⟩ := h
    exact q7.under hs
  | gone => rfl
  | iter _ _ _ =>
    obtain ⟨b, mb, h1, h2, h3, _⟩ := h
    simp only [AObj.under, decide_eq_true_eq]; exact hs _ _ h3
  | siter _ _ => rfl

/-- What was there before names nothing newer; so the newer may be dropped. -/
theorem MR.pop {s0 s : Sim} {M0 M : Mem} {w00 w : World} (h0 : MR w0 s0 M0 w00) (hle : s0.le s) (h : MR w0 s M w) (hk : Keeps M0 M) (hb : badOk M0.objs.length M.bad = true) (old : Option Nat) :
    MR w0 (s.cut M0.objs.length) { objs := M.objs.take M0.objs.length, bad := old } w ∧ s0.le (s.cut M0.objs.length) := by
  refine ⟨h.cut _ _ fun i o hi ho => (h.obj i o ho).cut hi ?_, ⟨hle.fz, fun id l hl => ?_, hle.defs⟩⟩
  · rcases hk.obj i o hi ho with ⟨o0, h1, hu⟩ | h1 | ⟨b, h1, h2⟩
    · exact hu _ hi ((h0.obj i o0 h1).under fun id l hl => h0.lt hl)
    · exact oUnder_mono (by omega) h1
    · rw [h1] at hb
      simp only [badOk, decide_eq_true_eq] at hb
      omega
  · obtain ⟨l', h1, h2⟩ := hle.loc id l hl
    exact ⟨l', by simp [Sim.cut, h0.lt hl, h1], h2⟩

/-! The code. -/

/-- Nothing is deferred. -/
def noDfr : C → Bool
  | .seq a b | .seqT a _ b | .cond _ a b => noDfr a && noDfr b
  | .block _ a | .loop _ _ a => noDfr a
  | .dfr _ _ _ => false
  | _ => true

def okC (P : Program) (nt : Nat) : Code → C → Bool
  | .skip, .skip => true
  | .region _ ops false, .reg is _ => okOpers P nt ops ops.toList is
  | .region _ ops false, .dfr g caps outs => okDfr P nt ops g caps outs
  | .region _ ops true, .regD is _ => okD P nt ops is
  | .seq a b, .seq a' b' => okC P nt a a' && okC P nt b b'
  | .seq a b, .seqT a' _ b' => okC P nt a a' && okC P nt b b'
  | .cond c a b, .cond c' a' b' => okArg c c' && okC P nt a a' && okC P nt b b'
  | .block id a, .block id' a' => id == id' && okC P nt a a'
  | .loop a, .loop _ _ a' => okC P nt a a'
  | .exit id, .exit id' => id == id'
  | .ret, .ret => true
  | _, .cut => true
  | .rangeFunc f ps a b, .rangeFunc g ps' a' b' _ => okArg f g && decide (ps.toList = ps') && ps'.all (fun p => decide (p < nt)) && decide ps'.Nodup && (okC P nt a a' && noDfr a') && (okC P nt b b' && noDfr b')
  | _, _ => false

/-- Of a part of a loop over an iterator. -/
def okY (P : Program) (nt : Nat) (code : Code) (c : C) : Bool := okC P nt code c && noDfr c

theorem okY_c {P : Program} {nt : Nat} {code : Code} {c : C} (h : okY P nt code c = true) : okC P nt code c = true := by simp only [okY, Bool.and_eq_true] at h; exact h.1
theorem okY_d {P : Program} {nt : Nat} {code : Code} {c : C} (h : okY P nt code c = true) : noDfr c = true := by simp only [okY, Bool.and_eq_true] at h; exact h.2

def X.exit : X → Exit
  | .nrm => .normal
  | .ext id => .exit id
  | .ret => .ret

theorem LR.keep {s : Sim} {e : Env} {tmps : Array Value} (h : LR s e tmps) : ∀ (ts : List Nat), LR s (e.keep ts) tmps := by
  intro ts
  induction ts with
  | nil => intro t v hv; simp [Env.keep, Env.get] at hv
  | cons t ts ih =>
    intro u x hx
    simp only [Env.keep] at hx
    split at hx
    · rename_i v hv
      simp only [Env.get] at hx
      split at hx
      · rename_i e1; subst e1
        simp only [Option.some.injEq] at hx; subst hx
        exact h _ _ hv
      · exact ih u x hx
    · exact ih u x hx

/-! The marks that loops over iterators leave among an activation's deferred calls. -/

def mkD (d : Nat) : Deferred := { target := .collected d, args := #[] }

/-- What stands ahead of the deferred calls that were: marks of loops, calls that come to nothing. -/
def Marks (P : Program) (s s' : Sim) (ds ds0 : List Deferred) : Prop := ∃ xs : List (Option Nat × Deferred), ds = xs.map (·.2) ++ ds0 ∧ (xs.filterMap (·.1)).Nodup ∧
  ∀ x ∈ xs, match x.1 with
    | some d => x.2 = mkD d ∧ s'.defs d ∧ ¬ s.defs d
    | none => Inert P x.2

theorem Marks.refl (P : Program) (s s' : Sim) (ds : List Deferred) : Marks P s s' ds ds := ⟨[], rfl, List.nodup_nil, fun d h => by cases h⟩

theorem Marks.of_eq {P : Program} {s s' : Sim} {ds ds0 : List Deferred} (h : ds = ds0) : Marks P s s' ds ds0 := h ▸ .refl P s s' ds

theorem Marks.inert {P : Program} {s s' : Sim} {d : Deferred} {ds ds0 : List Deferred} (h : ds = d :: ds0) (hd : Inert P d) : Marks P s s' ds ds0 :=
  ⟨[(none, d)], h, List.nodup_nil, fun x hx => by simp only [List.mem_singleton] at hx; subst hx; exact hd⟩

theorem Marks.trans {P : Program} {s s1 s2 : Sim} {ds0 ds1 ds2 : List Deferred} (h1 : Marks P s s1 ds1 ds0) (h2 : Marks P s1 s2 ds2 ds1) (hle : s.le s1) (hle2 : s1.le s2) : Marks P s s2 ds2 ds0 := by
  obtain ⟨b1, rfl, n1, p1⟩ := h1
  obtain ⟨b2, rfl, n2, p2⟩ := h2
  refine ⟨b2 ++ b1, by simp, ?_, fun x hx => ?_⟩
  · rw [List.filterMap_append, List.nodup_append]
    refine ⟨n2, n1, fun a ha b hb e => ?_⟩
    subst e
    obtain ⟨x, hx, ex⟩ := List.mem_filterMap.1 ha
    obtain ⟨y, hy, ey⟩ := List.mem_filterMap.1 hb
    have q2 := p2 x hx
    have q1 := p1 y hy
    rw [ex] at q2
    rw [ey] at q1
    exact q2.2.2 q1.2.1
  · rcases List.mem_append.1 hx with h | h
    · have q := p2 x h
      split at q
      · exact ⟨q.1, q.2.1, fun e => q.2.2 (hle.defs _ e)⟩
      · exact q
    · have q := p1 x h
      split at q
      · exact ⟨q.1, hle2.defs _ q.2.1, q.2.2⟩
      · exact q

theorem Marks.mono {P : Program} {s s1 s2 : Sim} {ds0 ds1 : List Deferred} (h1 : Marks P s s1 ds1 ds0) (h : ∀ d, s1.defs d → s2.defs d) : Marks P s s2 ds1 ds0 := by
  obtain ⟨b1, rfl, n1, p1⟩ := h1
  refine ⟨b1, rfl, n1, fun x hx => ?_⟩
  have q := p1 x hx
  split at q
  · exact ⟨q.1, h _ q.2.1, q.2.2⟩
  · exact q

/-- A loop over an iterator is entered. -/
theorem MR.enterLoop {s : Sim} {M : Mem} {w : World} (hm : MR w0 s M w) {rd : Option Nat} (hrd : ∀ l0, rd = some l0 → ∃ id, s.loc id = some (.loop l0)) {fn : FuncId} {tmps : Array Value} {ps : Array Tmp} {as b : Code} {as' b' : C} {nt : Nat} {e : Env} (ds : List Deferred)
    (h1 : w0.okc nt as as') (h2 : w0.okc nt b b') (h3 : nt ≤ tmps.size) (h4 : ∀ p ∈ ps.toList, p < nt) (h5 : ps.toList.Nodup) (hL : LRA s e tmps) :
    ∃ l mark s1 w1, (Instr.enterLoop fn tmps ps as b rd).run P w = .ok (l, mark) w1 ∧ s.le s1 ∧ s1.loc M.objs.length = some (.loop l) ∧ MR w0 s1 (M.push (.loop ps.toList as' b' e .ready)) w1 ∧ Marks P s s1 (mark ++ ds) ds := by
  have key : ∀ (s0 : Sim) (W : World) (D : Nat), s.le s0 → MR w0 s0 M W → 
      s0.le (s0.setLoc M.objs.length (.loop W.heap.size)) ∧ MR w0 (s0.setLoc M.objs.length (.loop W.heap.size)) (M.push (.loop ps.toList as' b' e .ready)) (W.alloc (.loop { state := .ready, pending := none, fn, tmps, params := ps, assign := as, body := b, defers := D })) := by
    intro s0 W D hle hm0
    refine ⟨le_setLoc_new hm0 _, (hm0.alloc _).pushObj _ _ (fun b hb => ?_) ?_⟩
    · cases hb
      exact ⟨hm0.below.size, fun i l' hl' hb' => absurd (hm0.block_lt hl' hb') (Nat.lt_irrefl _), hm0.held_new⟩
    · exact ⟨_, _, nt, setLoc_self _ _ _, heap_alloc_new W _, rfl, h1, h2, h3, h4, h5, hL.mono (hle.trans (le_setLoc_new hm0 _)), rfl, rfl⟩
  cases rd with
  | none =>
    obtain ⟨q1, q2, q3⟩ := hm.newDefs
    obtain ⟨k1, k2⟩ := key _ _ w.heap.size q1 q2
    refine ⟨_, _, _, _, run_enterLoop_outer fn tmps ps as b, q1.trans k1, ?_, k2, [(some w.heap.size, mkD w.heap.size)], rfl, by simp, fun x hx => ?_⟩
    · rw [setLoc_self]; simp [World.size_alloc]
    · simp only [List.mem_singleton] at hx
      subst hx
      exact ⟨rfl, .inr rfl, q3⟩
  | some l0 =>
    obtain ⟨id, hid⟩ := hrd l0 rfl
    obtain ⟨r0, hr0⟩ : ∃ r0, w.heap[l0]? = some (.loop r0) := by
      have ho := hm.obj id _ (List.getElem?_eq_getElem (hm.lt hid))
      generalize M.objs[id]'(hm.lt hid) = o at ho
      cases o with
      | row ver cs => obtain ⟨b, c, e, h1, _⟩ := ho; rw [h1] at hid; cases hid
      | map es => obtain ⟨b, mes, clock, h1, _⟩ := ho; rw [h1] at hid; cases hid
      | tip n => obtain ⟨k, a, cap, h1, _⟩ := ho; rw [h1] at hid; cases hid
      | dead => obtain ⟨ver, n, h1⟩ := ho; rw [h1] at hid; cases hid
      | loop _ _ _ _ _ => obtain ⟨l, r, nt, h1, h2, _⟩ := ho; rw [h1] at hid; cases hid; exact ⟨r, h2⟩
      | gone => obtain ⟨l, r, h1, h2⟩ := ho; rw [h1] at hid; cases hid; exact ⟨r, h2⟩
      | iter _ _ _ => obtain ⟨b, mb, h1, _⟩ := ho; rw [h1] at hid; cases hid
      | siter _ _ => obtain ⟨b, h1, _⟩ := ho; rw [h1] at hid; cases hid
    obtain ⟨k1, k2⟩ := key s w r0.defers (.refl s) hm
    exact ⟨_, _, _, _, run_enterLoop_inner hr0 fn tmps ps as b, k1, setLoc_self _ _ _, k2, .refl _ _ _ _⟩

theorem evC_cut {call : Nat → List AV → Mem → Option (AV × Mem)} {n : Nat} {env : Env} {M : Mem} {r} (h : evC call n .cut env M = some r) : False := by
  simp only [evC] at h
  cases h

theorem code_sound (hmix : P.follows .mixedOrders = true) {call : Nat → List AV → Mem → Option (AV × Mem)} (hcs : CallSound P w0 call) (hkeep : ∀ f args M r M', call f args M = some (r, M') → Keeps M M') (hokc : ∀ nt code c, w0.okc nt code c ↔ okY P nt code c = true) {rd : Option Nat} {m nt n : Nat} :
    ∀ (code : Code) (c : C) (s : Sim) (env : Env) (M : Mem) (w : World) (a : Act) (x : X) (env' : Env) (M' : Mem) (Q : Exit → Act → World → Prop),
      okC P nt code c = true → (rd = none ∨ noDfr c = true) → nt ≤ a.tmps.size → evC call n c env M = some (x, env', M') → LR s env a.tmps → MR w0 s M w → (∀ l0, rd = some l0 → ∃ id, s.loc id = some (.loop l0)) →
      (∀ s' a' w', s.le s' → LR s' env' a'.tmps → a'.tmps.size = a.tmps.size → Marks P s s' a'.defers a.defers → MR w0 s' M' w' → Q x.exit a' w') → code.wpIn (wide rd) m P Q a w := by
  intro code
  induction code with
  | skip =>
    intro c s env M w a x env' M' Q hok hdn hnt h hL hm hrd hQ
    cases c <;> first | exact (evC_cut h).elim | (simp only [okC] at hok; first | (cases hok; done) | skip)
    simp only [evC, Option.some.injEq, Prod.mk.injEq] at h
    obtain ⟨rfl, rfl, rfl⟩ := h
    exact wpIn_skip (hQ s a w (.refl s) hL rfl (.refl _ _ _ _) hm)
  | region id ops draw =>
    intro c s env M w a x env' M' Q hok hdn hnt h hL hm hrd hQ
    cases draw with
    | false =>
      cases c <;> first | exact (evC_cut h).elim | (simp only [okC] at hok; first | (cases hok; done) | skip)
      case dfr g caps outs =>
        simp only [evC] at h
        split at h
        · cases h
        · simp only [Option.some.injEq, Prod.mk.injEq] at h
          obtain ⟨rfl, rfl, rfl⟩ := h
          have hrd0 : rd = none := by
            rcases hdn with h | h
            · exact h
            · cases h
          subst hrd0
          refine wpIn_region ?_
          exact dfr_wp hok hnt hL fun d a' hd g1 g2 g3 => hQ s a' w (.refl s) g3 g2 (.inert g1 hd) hm
      rename_i is outs
      simp only [evC] at h
      split at h
      · cases h
      · rename_i L M1 h1
        simp only [Option.some.injEq, Prod.mk.injEq] at h
        obtain ⟨rfl, rfl, rfl⟩ := h
        refine wpIn_region ?_
        rw [List.range_eq_range']
        have := ops_sound hcs (r := rd) (n := m) (ops := ops) (Q := Q) ops.toList is 0 s M w env a L M1 (fun j hj => by simp) hok hnt h1 hL hm fun s' a' w' g1 g2 g3 g4 g5 => hQ s' a' w' g1 (g2.keep outs) g3 (.of_eq g4) g5
        simpa using this
    | true =>
      cases c <;> first | exact (evC_cut h).elim | (simp only [okC] at hok; first | (cases hok; done) | skip)
      rename_i is outs
      simp only [evC] at h
      split at h
      · cases h
      · rename_i L M1 ms tr h1
        split at h
        · rename_i hst
          simp only [Option.some.injEq, Prod.mk.injEq] at h
          obtain ⟨rfl, rfl, rfl⟩ := h
          refine wpIn_region_any hmix ?_
          exact regD_sound hcs hok hnt h1 hst hL hm.drew fun s' a' w' g1 g2 g3 g4 g5 => hQ s' a' w' g1 (g2.keep outs) g3 (.of_eq g4) g5
        · cases h
  | seq p q ihp ihq =>
    intro c s env M w a x env' M' Q hok hdn hnt h hL hm hrd hQ
    cases c <;> first | exact (evC_cut h).elim | (simp only [okC] at hok; first | (cases hok; done) | skip)
    · rename_i p' q'
      simp only [Bool.and_eq_true] at hok
      simp only [noDfr, Bool.and_eq_true] at hdn
      simp only [evC] at h
      refine wpIn_seq ?_
      cases h1 : evC call n p' env M with
      | none => rw [h1] at h; cases h
      | some y =>
        obtain ⟨y, env1, M1⟩ := y
        rw [h1] at h
        refine ihp p' s env M w a y env1 M1 _ hok.1 (hdn.imp id (·.1)) hnt h1 hL hm hrd fun s' a' w' g1 g2 g3 g4 g5 => ?_
        cases y with
        | nrm =>
          simp only at h
          exact ihq q' s' env1 M1 w' a' x env' M' Q hok.2 (hdn.imp id (·.2)) (by omega) h g2 g5 (fun l0 e => (hrd l0 e).imp fun _ h => g1.loop h) fun s2 a2 w2 k1 k2 k3 k4 k5 => hQ s2 a2 w2 (g1.trans k1) k2 (by omega) (g4.trans k4 g1 k1) k5
        | ext i =>
          simp only [Option.some.injEq, Prod.mk.injEq] at h
          obtain ⟨rfl, rfl, rfl⟩ := h
          exact hQ s' a' w' g1 g2 g3 g4 g5
        | ret =>
          simp only [Option.some.injEq, Prod.mk.injEq] at h
          obtain ⟨rfl, rfl, rfl⟩ := h
          exact hQ s' a' w' g1 g2 g3 g4 g5
    · rename_i p' outs q'
      simp only [Bool.and_eq_true] at hok
      simp only [noDfr, Bool.and_eq_true] at hdn
      simp only [evC] at h
      refine wpIn_seq ?_
      cases h1 : evC call n p' env M with
      | none => rw [h1] at h; cases h
      | some y =>
        obtain ⟨y, env1, M1⟩ := y
        rw [h1] at h
        refine ihp p' s env M w a y env1 M1 _ hok.1 (hdn.imp id (·.1)) hnt h1 hL hm hrd fun s' a' w' g1 g2 g3 g4 g5 => ?_
        cases y with
        | nrm =>
          simp only at h
          exact ihq q' s' (env1.keep outs) M1 w' a' x env' M' Q hok.2 (hdn.imp id (·.2)) (by omega) h (g2.keep outs) g5 (fun l0 e => (hrd l0 e).imp fun _ h => g1.loop h) fun s2 a2 w2 k1 k2 k3 k4 k5 => hQ s2 a2 w2 (g1.trans k1) k2 (by omega) (g4.trans k4 g1 k1) k5
        | ext i =>
          simp only [Option.some.injEq, Prod.mk.injEq] at h
          obtain ⟨rfl, rfl, rfl⟩ := h
          exact hQ s' a' w' g1 g2 g3 g4 g5
        | ret =>
          simp only [Option.some.injEq, Prod.mk.injEq] at h
          obtain ⟨rfl, rfl, rfl⟩ := h
          exact hQ s' a' w' g1 g2 g3 g4 g5
  | cond cc p q ihp ihq =>
    intro c s env M w a x env' M' Q hok hdn hnt h hL hm hrd hQ
    cases c <;> first | exact (evC_cut h).elim | (simp only [okC] at hok; first | (cases hok; done) | skip)
    rename_i cc' p' q'
    simp only [Bool.and_eq_true] at hok
    simp only [noDfr, Bool.and_eq_true] at hdn
    simp only [evC] at h
    split at h
    · rename_i e
      have hc := (okArg_ok hL hok.1.1 e).bool_inv
      exact wpIn_cond_true hc (ihp p' s env M w a x env' M' Q hok.1.2 (hdn.imp id (·.1)) hnt h hL hm hrd hQ)
    · rename_i e
      have hc := (okArg_ok hL hok.1.1 e).bool_inv
      exact wpIn_cond_false hc (ihq q' s env M w a x env' M' Q hok.2 (hdn.imp id (·.2)) hnt h hL hm hrd hQ)
    · cases h
  | block id p ih =>
    intro c s env M w a x env' M' Q hok hdn hnt h hL hm hrd hQ
    cases c <;> first | exact (evC_cut h).elim | (simp only [okC] at hok; first | (cases hok; done) | skip)
    rename_i id' p'
    simp only [Bool.and_eq_true, beq_iff_eq] at hok
    obtain ⟨rfl, hok⟩ := hok
    simp only [evC] at h
    refine wpIn_block ?_
    cases h1 : evC call n p' env M with
    | none => rw [h1] at h; cases h
    | some y =>
      obtain ⟨y, env1, M1⟩ := y
      rw [h1] at h
      refine ih p' s env M w a y env1 M1 _ hok hdn hnt h1 hL hm hrd fun s' a' w' g1 g2 g3 g4 g5 => ?_
      cases y with
      | nrm =>
        simp only [Option.some.injEq, Prod.mk.injEq] at h
        obtain ⟨rfl, rfl, rfl⟩ := h
        exact hQ s' a' w' g1 g2 g3 g4 g5
      | ext i =>
        simp only at h
        simp only [X.exit, Exit.inBlock]
        split at h
        · rename_i e
          simp only [Option.some.injEq, Prod.mk.injEq] at h
          obtain ⟨rfl, rfl, rfl⟩ := h
          rw [if_pos e]
          exact hQ s' a' w' g1 g2 g3 g4 g5
        · rename_i e
          simp only [Option.some.injEq, Prod.mk.injEq] at h
          obtain ⟨rfl, rfl, rfl⟩ := h
          rw [if_neg e]
          exact hQ s' a' w' g1 g2 g3 g4 g5
      | ret =>
        simp only [Option.some.injEq, Prod.mk.injEq] at h
        obtain ⟨rfl, rfl, rfl⟩ := h
        exact hQ s' a' w' g1 g2 g3 g4 g5
  | loop p ih =>
    intro c s env M w a x env' M' Q hok hdn hnt h hL hm hrd hQ
    cases c <;> first | exact (evC_cut h).elim | (simp only [okC] at hok; first | (cases hok; done) | skip)
    rename_i keep pop p'
    simp only [evC] at h
    refine wpIn_loop_rounds n ?_
    -- round by round
    have key : ∀ (k : Nat) (s1 : Sim) (env1 : Env) (M1 : Mem) (w1 : World) (a1 : Act), s.le s1 → LR s1 env1 a1.tmps → a1.tmps.size = a.tmps.size → Marks P s s1 a1.defers a.defers → MR w0 s1 M1 w1 → Keeps M M1 →
        iter (evC call n p') keep (if pop then some (M.objs.length, M.bad) else none) k env1 M1 = some (x, env', M') → Code.roundsIn (wide rd) m P p Q k a1 w1 := by
      intro k
      induction k with
      | zero => intro s1 env1 M1 w1 a1 _ _ _ _ _ _ h; cases h
      | succ k ihk =>
        intro s1 env1 M1 w1 a1 hs hL1 hsz hdf hm1 hk1 h
        rw [roundsIn_succ]
        simp only [iter] at h
        -- what is dropped at the head
        obtain ⟨s2, q1, q2, q3, q4, q5⟩ : ∃ s2, s.le s2 ∧ LR s2 (env1.keep keep) a1.tmps ∧ MR w0 s2 (popAt (if pop then some (M.objs.length, M.bad) else none) (env1.keep keep) M1) w1 ∧ Keeps M (popAt (if pop then some (M.objs.length, M.bad) else none) (env1.keep keep) M1) ∧ ∀ d, s1.defs d → s2.defs d := by
          have hL2 := hL1.keep keep
          cases pop with
          | false => exact ⟨s1, hs, hL2, hm1, hk1, fun _ h => h⟩
          | true =>
            simp only [if_true, popAt]
            have hkk := popTo_keeps hk1 (env1.keep keep)
            unfold popTo at hkk ⊢
            split
            · rename_i hc
              simp only [Bool.and_eq_true] at hc
              obtain ⟨g1, g2⟩ := hm.pop hs hm1 hk1 hc.2 M.bad
              rw [if_pos (by simp [hc])] at hkk
              exact ⟨_, g2, hL2.cut hc.1, g1, hkk, fun _ h => h⟩
            · exact ⟨s1, hs, hL2, hm1, hk1, fun _ h => h⟩
        cases h1 : evC call n p' (env1.keep keep) (popAt (if pop then some (M.objs.length, M.bad) else none) (env1.keep keep) M1) with
        | none => rw [h1] at h; cases h
        | some y =>
          obtain ⟨y, env2, M2⟩ := y
          rw [h1] at h
          have hmk : Marks P s s2 a1.defers a.defers := hdf.mono q5
          refine ih p' s2 _ _ w1 a1 y env2 M2 _ hok hdn (by omega) h1 q2 q3 (fun l0 e => (hrd l0 e).imp fun _ h => q1.loop h) fun s' a' w' g1 g2 g3 g4 g5 => ?_
          cases y with
          | nrm =>
            simp only at h
            exact ihk s' env2 M2 w' a' (q1.trans g1) g2 (g3.trans hsz) (hmk.trans g4 q1 g1) g5 (q4.trans (evC_keeps hkeep h1)) h
          | ext i =>
            simp only [Option.some.injEq, Prod.mk.injEq] at h
            obtain ⟨rfl, rfl, rfl⟩ := h
            exact hQ s' a' w' (q1.trans g1) g2 (g3.trans hsz) (hmk.trans g4 q1 g1) g5
          | ret =>
            simp only [Option.some.injEq, Prod.mk.injEq] at h
            obtain ⟨rfl, rfl, rfl⟩ := h
            exact hQ s' a' w' (q1.trans g1) g2 (g3.trans hsz) (hmk.trans g4 q1 g1) g5
    exact key n s env M w a (.refl s) hL rfl (.refl _ _ _ _) hm (Keeps.refl M) h
  | exit id =>
    intro c s env M w a x env' M' Q hok hdn hnt h hL hm hrd hQ
    cases c <;> first | exact (evC_cut h).elim | (simp only [okC] at hok; first | (cases hok; done) | skip)
    simp only [beq_iff_eq] at hok
    subst hok
    simp only [evC, Option.some.injEq, Prod.mk.injEq] at h
    obtain ⟨rfl, rfl, rfl⟩ := h
    exact wpIn_exit (hQ s a w (.refl s) hL rfl (.refl _ _ _ _) hm)
  | ret =>
    intro c s env M w a x env' M' Q hok hdn hnt h hL hm hrd hQ
    cases c <;> first | exact (evC_cut h).elim | (simp only [okC] at hok; first | (cases hok; done) | skip)
    simp only [evC, Option.some.injEq, Prod.mk.injEq] at h
    obtain ⟨rfl, rfl, rfl⟩ := h
    exact wpIn_ret (hQ s a w (.refl s) hL rfl (.refl _ _ _ _) hm)
  | rangeFunc f ps as b iha ihb =>
    intro c s env M w a x env' M' Q hok hdn hnt h hL hm hrd hQ
    cases c <;> first | exact (evC_cut h).elim | (simp only [okC] at hok; first | (cases hok; done) | skip)
    rename_i g ps' as' b' keep
    simp only [Bool.and_eq_true, decide_eq_true_eq, List.all_eq_true] at hok
    obtain ⟨⟨⟨⟨⟨hg, hps⟩, hlt⟩, hnd⟩, has, has2⟩, hb, hb2⟩ := hok
    subst hps
    simp only [evC] at h
    split at h
    · rename_i gf first caps e
      split at h
      · cases h
      · rename_i r M1 hcall
        have hf := okArg_ok hL hg e
        generalize hfv : a.eval f = fv at hf
        cases hf with
        | func _ _ _ fs cs l1 l2 c1 c2 hgf =>
          refine wpIn_rangeFunc fun fn _ => ?_
          obtain ⟨l, mark, s1, w1, q1, q2, q3, q4, q5⟩ := hm.enterLoop (P := P) (rd := rd) hrd (fn := fn) (tmps := a.tmps) (ps := ps) (as := as) (b := b) (as' := as') (b' := b') (nt := nt) (e := env.keep keep) a.defers ((hokc _ _ _).2 (by rw [okY, has, has2]; rfl)) ((hokc _ _ _).2 (by rw [okY, hb, hb2]; rfl)) hnt (fun p hp => by simpa using hlt p hp) hnd (hL.keepA keep)
          obtain ⟨hent, hcl⟩ := (hcs w0 rfl _ _ _ _ _ hcall).1 hgf
          refine ⟨l, mark, w1, { target := .fn (.func gf) cs.toArray, args := (fs ++ [Value.func (.yield l) #[] #[]]).toArray }, w1, gf, ((fs ++ [Value.func (.yield l) #[] #[]]) ++ cs).toArray, w1, q1, ?_, (fun f' _ => trivial), ?_, (fun h => by cases h), callsIn_any.2 ?_⟩
          · simp only [resolve, hfv]
            simp [go_sem]
          · simp only [invoke]
            have := hent ((fs ++ [Value.func (.yield l) #[] #[]]).toArray ++ cs.toArray) w1
            simpa using this
          · have hv1 : ∀ (i : Nat) (x : AV) (v : Value), [AV.yield M.objs.length][i]? = some x → [Value.func (.yield l) #[] #[]][i]? = some v → VR s1 x v := by
              intro i x v hx hv
              cases i with
              | zero =>
                simp only [List.getElem?_cons_zero, Option.some.injEq] at hx hv
                subst hx; subst hv
                exact .yield _ _ q3
              | succ i => simp at hx
            refine (hcl s1 w1 _ q4 (by simp [l1, l2]) (list_append_get (by simp [l1]) (list_append_get l1 (fun i x v hx hv => (c1 i x v hx hv).mono q2) hv1) (fun i x v hx hv => (c2 i x v hx hv).mono q2))).mono ?_
            rintro e w2 ⟨u, s2, rfl, g1, _, g3⟩
            have hl2 := g1.loop q3
            have after : ∀ (st : LS), (∃ ps1 as1 b1 e1, M1.objs[M.objs.length]? = some (.loop ps1 as1 b1 e1 st)) → st ≠ .busy → ∃ r w3, (Instr.endLoop l).run P w2 = .ok r w3 ∧ (match st with | .ready => r = none | .busy => False | .done x => r = x.pend ∧ x ≠ .nrm) ∧ MR w0 s2 (M1.mark M.objs.length .gone) w3 := by
              rintro st ⟨ps1, as1, b1, e1, ho⟩ hst
              obtain ⟨l', r, nt', k1, k2, k3⟩ := g3.obj _ _ ho
              rw [hl2] at k1
              cases k1
              obtain ⟨_, _, _, _, _, _, _, k4⟩ := k3
              have hbz : r.state ≠ .busy := by
                cases st with
                | ready => rw [k4.1]; simp
                | busy => exact absurd rfl hst
                | done x => rw [k4.1]; simp
              refine ⟨_, _, run_endLoop k2 hbz, ?_, g3.markLoop hl2 k2 .gone ⟨l, _, hl2, World.putObj_heap_same (Array.getElem?_eq_some_iff.1 k2).1⟩⟩
              cases st with
              | ready => exact k4.2
              | busy => exact absurd rfl hst
              | done x => exact k4.2
            have hmk : Marks P s s2 (mark ++ a.defers) a.defers := q5.mono g1.defs
            have hL2 : LR s2 (env.keep keep) a.tmps := (hL.keep keep).mono (q2.trans g1)
            split at h
            · rename_i ho
              simp only [Option.some.injEq, Prod.mk.injEq] at h
              obtain ⟨rfl, rfl, rfl⟩ := h
              obtain ⟨r, w3, k1, k2, k3⟩ := after .ready ⟨_, _, _, _, ho⟩ (by simp)
              simp only at k2
              subst k2
              exact ⟨none, w3, k1, hQ s2 _ w3 (q2.trans g1) hL2 rfl hmk k3⟩
            · rename_i y ho
              simp only [Option.some.injEq, Prod.mk.injEq] at h
              obtain ⟨rfl, rfl, rfl⟩ := h
              obtain ⟨r, w3, k1, k2, k3⟩ := after (.done _) ⟨_, _, _, _, ho⟩ (by simp)
              simp only at k2
              obtain ⟨rfl, hne⟩ := k2
              have hq := hQ s2 { a with defers := mark ++ a.defers } w3 (q2.trans g1) hL2 rfl hmk k3
              refine ⟨_, w3, k1, ?_⟩
              rename_i y _ _ _
              cases y with
              | nrm => exact absurd rfl hne
              | ret => exact wpIn_ret hq
              | ext i => exact wpIn_exit hq
            · cases h
    · cases h
  | scope b ih =>
    intro c s env M w a x env' M' Q hok _ _ h
    cases c <;> first | exact (evC_cut h).elim | (simp only [okC] at hok; cases hok)
  | label l =>
    intro c s env M w a x env' M' Q hok _ _ h
    cases c <;> first | exact (evC_cut h).elim | (simp only [okC] at hok; cases hok)
  | goto l =>
    intro c s env M w a x env' M' Q hok _ _ h
    cases c <;> first | exact (evC_cut h).elim | (simp only [okC] at hok; cases hok)
  | refuse why =>
    intro c s env M w a x env' M' Q hok _ _ h
    cases c <;> first | exact (evC_cut h).elim | (simp only [okC] at hok; cases hok)

/-! Functions. -/

def okRes (P : Program) : List ResultVar → List (Nat × Option (Option Nat)) → Bool
  | [], [] => true
  | .tmp t :: rs, (t', none) :: qs => t == t' && okRes P rs qs
  | .cell t ty :: rs, (t', some k) :: qs => t == t' && okPart P ty k && okRes P rs qs
  | _, _ => false

def resRun (tmps : Array Value) : ResultVar → Sem Value
  | .tmp t => pure (tmps.getD t undef)
  | .cell a t => do loadVar t (← asAddr (tmps.getD a undef))

theorem results_eq (fn : Func) (tmps : Array Value) : results fn tmps = (do
    let vs ← fn.results.mapM (resRun tmps)
    pure (if h : vs.size = 1 then vs[0] else .tuple vs)) := by
  have : (fun x => match x with
    | .tmp t => (pure (tmps.getD t undef) : Sem Value)
    | .cell a t => do loadVar t (← asAddr (tmps.getD a undef))) = resRun tmps := by
    funext x; cases x <;> rfl
  rw [← this]
  rfl

theorem results_list {s : Sim} {w : World} {M : Mem} {tmps : Array Value} {env : Env} (hm : MR w0 s M w) (hL : LR s env tmps) : ∀ (rs : List ResultVar) (qs : List (Nat × Option (Option Nat))) (us : List AV), okRes P rs qs = true → resVal env M qs = some us →
    ∃ vs : List Value, (rs.mapM (resRun tmps)).run P w = .ok vs w ∧ us.length = vs.length ∧ ∀ (i : Nat) (x : AV) (v : Value), us[i]? = some x → vs[i]? = some v → VR s x v := by
  intro rs
  induction rs with
  | nil =>
    intro qs us hok h
    cases qs with
    | nil =>
      simp only [resVal, Option.some.injEq] at h; subst h
      exact ⟨[], by simp, rfl, by simp⟩
    | cons q qs => simp [okRes] at hok
  | cons r rs ih =>
    intro qs us hok h
    cases qs with
    | nil => cases r <;> simp [okRes] at hok
    | cons q qs =>
      obtain ⟨t', c⟩ := q
      simp only [resVal] at h
      split at h
      · cases h
      · rename_i v hv
        split at h
        · cases h
        · rename_i u hu
          split at h
          · cases h
          · rename_i us1 h1
            simp only [Option.some.injEq] at h; subst h
            have hx := (hL _ _ hv).2
            cases r with
            | tmp t =>
              cases c with
              | some k => simp [okRes] at hok
              | none =>
                simp only [okRes, Bool.and_eq_true, beq_iff_eq] at hok
                obtain ⟨rfl, hok⟩ := hok
                simp only [Option.some.injEq] at hu
                subst hu
                obtain ⟨vs, g1, g2, g3⟩ := ih qs us1 hok h1
                refine ⟨tmps.getD t undef :: vs, ?_, by simp [g2], fun i x v hx' hv' => ?_⟩
                · simp only [List.mapM_cons, resRun, Sem.run_bind, Sem.run_pure, Result.andThen_ok, g1]
                · cases i with
                  | zero => simp only [List.getElem?_cons_zero, Option.some.injEq] at hx' hv'; subst hx'; subst hv'; exact hx
                  | succ i => exact g3 i x v (by simpa using hx') (by simpa using hv')
            | cell t ty =>
              cases c with
              | none => simp [okRes] at hok
              | some k =>
                simp only [okRes, Bool.and_eq_true, beq_iff_eq] at hok
                obtain ⟨⟨rfl, hp⟩, hok⟩ := hok
                simp only at hu
                obtain ⟨z, l1, l2⟩ := load_run (P := P) hm hp hx hu
                obtain ⟨vs, g1, g2, g3⟩ := ih qs us1 hok h1
                have haddr : ∃ ad, tmps.getD t undef = .pointer (some ad) := by
                  generalize tmps.getD t undef = pv at hx
                  unfold Mem.load at hu
                  split at hu
                  · cases hx; exact ⟨_, rfl⟩
                  · cases hx; exact ⟨_, rfl⟩
                  · cases hu
                obtain ⟨ad, had⟩ := haddr
                rw [had] at l1
                simp only [Instr.loadAt, Instr.sureAddr, Sem.run_bind, Sem.run_pure, Result.andThen_ok] at l1
                refine ⟨z :: vs, ?_, by simp [g2], fun i x v hx' hv' => ?_⟩
                · simp only [List.mapM_cons, resRun, Sem.run_bind, had, asAddr, Sem.run_pure, Result.andThen_ok, l1, g1]
                · cases i with
                  | zero => simp only [List.getElem?_cons_zero, Option.some.injEq] at hx' hv'; subst hx'; subst hv'; exact l2
                  | succ i => exact g3 i x v (by simpa using hx') (by simpa using hv')

theorem results_run {s : Sim} {w : World} {M : Mem} {fn : Func} {tmps : Array Value} {env : Env} {qs : List (Nat × Option (Option Nat))} {us : List AV} (hm : MR w0 s M w) (hL : LR s env tmps) (hok : okRes P fn.results.toList qs = true) (h : resVal env M qs = some us) :
    ∃ v, (results fn tmps).run P w = .ok v w ∧ VR s (packRes us) v := by
  obtain ⟨vs, g1, g2, g3⟩ := results_list (P := P) hm hL _ _ _ hok h
  refine ⟨if h : vs.length = 1 then vs[0] else .tuple vs.toArray, ?_, ?_⟩
  · rw [results_eq, Array.mapM_eq_mapM_toList]
    simp only [Sem.run_bind, Sem.run_map, g1, Result.andThen_ok, Sem.run_pure]
    congr 1
  · by_cases h1 : vs.length = 1
    · rw [dif_pos h1]
      obtain ⟨v, rfl⟩ := List.length_eq_one_iff.1 h1
      obtain ⟨u, rfl⟩ := List.length_eq_one_iff.1 (g2.trans h1)
      exact g3 0 u v rfl rfl
    · rw [dif_neg h1]
      have : packRes us = .tuple us := by
        cases us with
        | nil => rfl
        | cons a us => cases us with
          | nil => simp at g2; omega
          | cons b us => rfl
      rw [this]
      exact .tuple us vs g2 g3

def okFn (P : Program) (f : Nat) (fn : IFn) : Bool :=
  match P.funcs[f]? with
  | some F => match F.body with
    | some code => decide (f < yb) && decide (F.name ≠ "runtime.NumGoroutine") && okC P F.ntmps code fn.body && okRes P F.results.toList fn.res
    | none => false
  | none => false

theorem paramEnv_get : ∀ (args : List AV) (k t : Nat) (v : AV), (paramEnv k args).get t = some v → k ≤ t ∧ args[t - k]? = some v := by
  intro args
  induction args with
  | nil => intro k t v h; simp [paramEnv, Env.get] at h
  | cons a args ih =>
    intro k t v h
    simp only [paramEnv, Env.get] at h
    split at h
    · rename_i e; subst e
      simp only [Option.some.injEq] at h; subst h
      exact ⟨Nat.le_refl _, by simp⟩
    · rename_i e
      obtain ⟨h1, h2⟩ := ih (k + 1) t v h
      refine ⟨by omega, ?_⟩
      have : t - k = (t - (k + 1)) + 1 := by omega
      rw [this]; simpa using h2

/-! Rounds. -/

theorem get_append {e e' : Env} {t : Nat} : (e ++ e').get t = match e.get t with | some v => some v | none => e'.get t := by
  induction e with
  | nil => rfl
  | cons x e ih =>
    obtain ⟨s', y⟩ := x
    simp only [List.cons_append, Env.get]
    split
    · rfl
    · exact ih

theorem get_zip_none {t : Nat} : ∀ {ps : List Nat} {args : List AV}, t ∉ ps → Env.get (ps.zip args) t = none := by
  intro ps
  induction ps with
  | nil => intro args _; rfl
  | cons p ps ih =>
    intro args h
    cases args with
    | nil => rfl
    | cons a args =>
      simp only [List.zip_cons_cons, Env.get]
      rw [if_neg (fun e => h (by rw [e]; exact List.mem_cons_self))]
      exact ih fun e => h (List.mem_cons_of_mem _ e)

def setP (t : Array Value) (p : Nat × Value) : Array Value := t.setIfInBounds p.1 p.2

theorem LR.params {s : Sim} : ∀ (ps : List Nat) (args : List AV) (vs : List Value) (env : Env) (tmps : Array Value), ps.Nodup → (∀ p ∈ ps, p < tmps.size) → args.length = ps.length → vs.length = ps.length →
    (∀ (i : Nat) (x : AV) (v : Value), args[i]? = some x → vs[i]? = some v → VR s x v) → LR s env tmps → LR s (ps.zip args ++ env) ((ps.zip vs).foldl setP tmps) ∧ ((ps.zip vs).foldl setP tmps).size = tmps.size := by
  intro ps
  induction ps with
  | nil => intro args vs env tmps _ _ _ _ _ h; exact ⟨h, rfl⟩
  | cons p ps ih =>
    intro args vs env tmps hnd hlt ha hv hr hL
    cases args with
    | nil => simp at ha
    | cons a args =>
      cases vs with
      | nil => simp at hv
      | cons v vs =>
        simp only [List.nodup_cons] at hnd
        have hp : p < tmps.size := hlt p List.mem_cons_self
        have h1 : LR s ((p, a) :: env) (tmps.setIfInBounds p v) := by
          intro t x hx
          simp only [Env.get] at hx
          simp only [Array.size_setIfInBounds]
          split at hx
          · rename_i e; subst e
            simp only [Option.some.injEq] at hx; subst hx
            refine ⟨hp, ?_⟩
            simp only [Array.getD, Array.size_setIfInBounds, hp, dif_pos]
            simpa using hr 0 a v rfl rfl
          · rename_i e
            obtain ⟨q1, q2⟩ := hL t x hx
            refine ⟨q1, ?_⟩
            rw [Array.getD_eq_getD_getElem?, Array.getElem?_setIfInBounds_ne (by omega), ← Array.getD_eq_getD_getElem?]
            exact q2
        obtain ⟨q1, q2⟩ := ih args vs ((p, a) :: env) (tmps.setIfInBounds p v) hnd.2 (fun q hq => by simpa using hlt q (List.mem_cons_of_mem _ hq)) (by simpa using ha) (by simpa using hv) (fun i x u hx hu => hr (i + 1) x u (by simpa using hx) (by simpa using hu)) h1
        simp only [List.zip_cons_cons, List.foldl_cons]
        refine ⟨fun t x hx => q1 t x ?_, by rw [setP, q2]; simp⟩
        rw [← hx]
        simp only [List.cons_append, Env.get]
        rw [get_append]
        by_cases e : p = t
        · subst e
          rw [if_pos rfl, get_zip_none hnd.1]
          simp [Env.get]
        · rw [if_neg e, get_append]
          cases Env.get (ps.zip args) t <;> simp [Env.get, e]

theorem yield_sound (hmix : P.follows .mixedOrders = true) {call : Nat → List AV → Mem → Option (AV × Mem)} (hcs : CallSound P w0 call) (hkeep : ∀ f args M r M', call f args M = some (r, M') → Keeps M M') (hokc : ∀ nt code c, w0.okc nt code c ↔ okY P nt code c = true)
    {n id : Nat} {args : List AV} {M M' : Mem} {r : AV} (h : runYield (evC call n) id args M = some (r, M')) {s : Sim} {w : World} {vs : List Value} {l : Nat} (rd : Option Nat) (m : Nat) (hm : MR w0 s M w) (hl : args.length = vs.length)
    (hv : ∀ (i : Nat) (x : AV) (v : Value), args[i]? = some x → vs[i]? = some v → VR s x v) (hloc : s.loc id = some (.loop l)) :
    YieldAt (wide rd) m P l vs.toArray w fun e w' => ∃ v s', e = .returned v ∧ s.le s' ∧ VR s' r v ∧ MR w0 s' M' w' := by
  unfold runYield at h
  split at h
  rotate_left
  · cases h
  rename_i ps as body env ho
  obtain ⟨l', rec, nt, k1, k2, rfl, kas, kb, knt, klt, knd, kL, kst⟩ := hm.obj _ _ ho
  rw [hloc] at k1
  cases k1
  split at h
  rotate_left
  · cases h
  rename_i hlen
  split at h
  rotate_left
  · cases h
  rename_i e1 M1 hev1
  split at h
  rotate_left
  · cases h
  rename_i ps1 as1 body1 env1 ho1
  split at h
  rotate_left
  · cases h
  rename_i x e2 M2 hev2
  split at h
  rotate_left
  · cases h
  rename_i ps2 as2 body2 env2 ho2
  simp only [Option.some.injEq, Prod.mk.injEq] at h
  obtain ⟨rfl, rfl⟩ := h
  have hfold : (rec.params.zip vs.toArray).foldl (fun tmps (t, a) => tmps.setIfInBounds t a) rec.tmps = (rec.params.toList.zip vs).foldl setP rec.tmps := by
    rw [← Array.foldl_toList, Array.toList_zip]
    rfl
  obtain ⟨g1, g2⟩ := LR.params rec.params.toList args vs env rec.tmps knd (fun p hp => Nat.lt_of_lt_of_le (klt p hp) knt) hlen (by omega) hv kL.lr
  refine ⟨rec.fn, _, rec.assign, rec.body, run_yield k2 (by simp at hlen ⊢; omega), ?_⟩
  rw [hfold]
  refine roundIn_of_wpIn (F := wide rd) trivial ?_
  show rec.assign.wpIn (wide (some l)) m P _ _ w
  refine code_sound (rd := some l) hmix hcs hkeep hokc rec.assign as s _ M w _ .nrm e1 M1 _ (okY_c ((hokc _ _ _).1 kas)) (.inr (okY_d ((hokc _ _ _).1 kas))) (by rw [g2]; exact knt) hev1 g1 hm (fun l0 e => by cases e; exact ⟨id, hloc⟩) fun s1 a1 w1 p1 p2 p3 _ p5 => ?_
  have hloc1 := p1.loop hloc
  obtain ⟨l1, rec1, nt1, j1, j2, j3, j4, j5, j6, j7, j8, j9, j10⟩ := p5.obj _ _ ho1
  rw [hloc1] at j1
  cases j1
  have hmb : MR w0 s1 (M1.mark id (.loop ps1 as1 body1 env1 .busy)) (w1.putObj l (.loop { rec1 with state := .busy })) :=
    p5.markLoop hloc1 j2 _ ⟨l, _, nt1, hloc1, World.putObj_heap_same (Array.getElem?_eq_some_iff.1 j2).1, j3, j4, j5, j6, j7, j8, j9, rfl⟩
  refine ⟨_, run_beginRound j2 j10.1, ?_⟩
  show rec.body.wpIn (wide (some l)) m P _ _ _
  refine code_sound (rd := some l) hmix hcs hkeep hokc rec.body body s1 e1 _ _ a1 x e2 M2 _ (okY_c ((hokc _ _ _).1 kb)) (.inr (okY_d ((hokc _ _ _).1 kb))) (by rw [p3]; simp only [g2]; exact knt) hev2 p2 hmb (fun l0 e => by cases e; exact ⟨id, hloc1⟩) fun s2 a2 w2 q1 q2 q3 _ q5 => ?_
  have hloc2 := q1.loop hloc1
  obtain ⟨l2, rec2, nt2, i1, i2, i3, i4, i5, i6, i7, i8, i9, i10⟩ := q5.obj _ _ ho2
  rw [hloc2] at i1
  cases i1
  have fin : ∀ (jump : Option Code), StOk { rec2 with state := if jump.isNone then .ready else .done, pending := jump } (LS.after x) → isNrm x = jump.isNone →
      ∃ v w', (Instr.endRound l jump).run P w2 = .ok v w' ∧ ∃ v' s', Ending.returned v = .returned v' ∧ s.le s' ∧ VR s' (.bool (isNrm x)) v' ∧ MR w0 s' (M2.mark id (.loop ps2 as2 body2 env2 (LS.after x))) w' := by
    intro jump hst hj
    refine ⟨_, _, run_endRound jump i2, _, s2, rfl, p1.trans q1, ?_, q5.markLoop hloc2 i2 _ ⟨l, _, nt2, hloc2, World.putObj_heap_same (Array.getElem?_eq_some_iff.1 i2).1, i3, i4, i5, i6, i7, i8, i9, hst⟩⟩
    rw [hj]
    exact .bool _
  cases x with
  | nrm => exact fin none ⟨rfl, rfl⟩ rfl
  | ret => exact fin (some .ret) ⟨rfl, rfl, by simp⟩ rfl
  | ext i => exact fin (some (.exit i)) ⟨rfl, rfl, by simp⟩ rfl

/-! What was told ahead. -/

/-- What a function's table tells is so. -/
def OrcSound (P : Program) (env : (Nat → Code → C → Prop) × (World → Prop)) (f : Nat) (fn : IFn) : Prop :=
  ∀ args M r M', fn.orc args M = some (r, M') → Keeps M M' ∧ ∀ (w0 : Base), w0.env = env → ∀ (s : Sim) (w : World) (vs : List Value), MR w0 s M w → args.length = vs.length → (∀ (i : Nat) (x : AV) (v : Value), args[i]? = some x → vs[i]? = some v → VR s x v) →
    Calls P f vs.toArray w fun e w' => ∃ v s', e = .returned v ∧ s.le s' ∧ VR s' r v ∧ MR w0 s' M' w'

theorem orcSound_none {env : (Nat → Code → C → Prop) × (World → Prop)} {f : Nat} {fn : IFn} (h : ∀ args M, fn.orc args M = none) : OrcSound P env f fn := fun args M r M' e => by rw [h] at e; cases e

theorem leaves_marks {fn : Func} {tmps : Array Value} {env : Env} {R : Ending → World → Prop} {M : Mem} {s : Sim} : ∀ (xs : List (Option Nat × Deferred)) (s' : Sim) (w : World), s.le s' → LR s' env tmps → MR w0 s' M w → (xs.filterMap (·.1)).Nodup →
    (∀ x ∈ xs, match x.1 with | some d => x.2 = mkD d ∧ s'.defs d ∧ ¬ s.defs d | none => Inert P x.2) →
    (∀ s' w, s.le s' → LR s' env tmps → MR w0 s' M w → ∃ v, (results fn tmps).run P w = .ok v w ∧ R (.returned v) w) → LeavesInM (wide none) 0 P fn tmps R (xs.map (·.2)) .returning w := by
  intro xs
  induction xs with
  | nil => intro s' w h1 h2 h3 _ _ hR; exact hR s' w h1 h2 h3
  | cons x xs ih =>
    intro s' w h1 h2 h3 hnd hdf hR
    have hx := hdf x List.mem_cons_self
    obtain ⟨xd, xv⟩ := x
    cases xd with
    | some d =>
      simp only [List.filterMap_cons, List.nodup_cons] at hnd
      simp only at hx
      obtain ⟨rfl, hd1, hd2⟩ := hx
      refine ⟨by simp, .inl ⟨d, _, rfl, run_takeDeferred (h3.defs d hd1).2, ?_⟩⟩
      have h0 : s'.le0 { s' with defs := fun e => s'.defs e ∧ e ≠ d } := ⟨fun _ _ _ h => h, fun _ l h => ⟨l, h, l.le_refl⟩⟩
      refine ih { s' with defs := fun e => s'.defs e ∧ e ≠ d } _ ⟨h1.fz, h1.loc, fun e he => ⟨h1.defs e he, fun e2 => hd2 (e2 ▸ he)⟩⟩ (h2.mono0 h0) (h3.shut hd1) hnd.2 (fun y hy => ?_) hR
      have q := hdf y (List.mem_cons_of_mem _ hy)
      split at q
      · rename_i e he
        exact ⟨q.1, ⟨q.2.1, fun e2 => hnd.1 (by subst e2; exact List.mem_filterMap.2 ⟨y, hy, he⟩)⟩, q.2.2⟩
      · exact q
    | none =>
      simp only [List.filterMap_cons] at hnd
      obtain ⟨fv, cap, f, args, k1, k2⟩ := hx
      simp only at k1 k2
      refine ⟨by simp, .inr ⟨(fun h => by cases h), fv, cap, f, args, k1, (k2 w).1, fun _ _ => trivial, (k2 w).2.mono ?_⟩⟩
      rintro e u' w' ⟨⟨v, rfl⟩, rfl, rfl⟩
      exact ih s' w' h1 h2 h3 hnd (fun y hy => hdf y (List.mem_cons_of_mem _ hy)) hR

/-- WHAT THE EVALUATOR TELLS OF A CALL, THE CALL DOES. -/
theorem callN_sound (hmix : P.follows .mixedOrders = true) {T : Nat → Option IFn} (hT : ∀ f fn, T f = some fn → okFn P f fn = true) (hO : ∀ f fn, T f = some fn → OrcSound P w0.env f fn) (hokc : ∀ nt code c, w0.okc nt code c ↔ okY P nt code c = true) : ∀ n, CallSound P w0 (callN T n) := by
  intro n
  induction n with
  | zero => intro w1 e1 f args M r M' h; cases h
  | succ n ih =>
    intro w1 e1 f args M r M' h
    have hokc1 : ∀ nt code c, w1.okc nt code c ↔ okY P nt code c = true := by rw [Base.env_okc e1]; exact hokc
    simp only [callN] at h
    split at h
    · split at h
      · rename_i hge
        refine ⟨fun hlt => by omega, fun id hid s w vs l rd m hm hl hv hloc => ?_⟩
        subst hid
        rw [Nat.add_sub_cancel_left] at h
        exact yield_sound hmix (ih.of e1) (callN_keeps (T := T) (fun f fn h args M r M' e => (hO f fn h args M r M' e).1) n) hokc1 h rd m hm hl hv hloc
      · cases h
    · rename_i fn hfn
      have hok := hT f fn hfn
      unfold okFn at hok
      split at hok
      · rename_i F hF
        split at hok
        · rename_i code hb
          simp only [Bool.and_eq_true, decide_eq_true_eq] at hok
          obtain ⟨⟨⟨hyb, hname⟩, hc⟩, hr⟩ := hok
          refine ⟨fun _ => ⟨fun vs w => run_callFunc hF hb hname vs w, fun s w vs hm hl hv => ?_⟩, fun id hid => by omega⟩
          unfold runFn at h
          split at h
          · rename_i r' horc
            simp only [Option.some.injEq] at h
            subst h
            exact (hO f fn hfn args M r M' horc).2 w1 e1 s w vs hm hl hv
          rename_i horc
          split at h
          · rename_i hpar
            have hkeep := callN_keeps (T := T) (fun f fn h args M r M' e => (hO f fn h args M r M' e).1) n
            have main : ∀ (x : X) (env : Env) (M1 : Mem), evC (callN T n) n fn.body (paramEnv 0 args) { M with bad := none } = some (x, env, M1) → (x = .nrm ∨ x = .ret) →
                (match resVal env M1 fn.res with | none => none | some rs => some ((if fn.keep then packRes rs else (packRes rs).untag), shrink M.objs.length M.bad fn.pop (if fn.keep then packRes rs else (packRes rs).untag) M1)) = some (r, M') →
                Calls P f vs.toArray w fun e w' => ∃ v s', e = .returned v ∧ s.le s' ∧ VR s' r v ∧ MR w1 s' M' w' := by
              intro x env M1 hev hx hres
              split at hres
              · cases hres
              · rename_i rs hrs
                simp only [Option.some.injEq, Prod.mk.injEq] at hres
                obtain ⟨hr1, hr2⟩ := hres
                rw [← callsIn_wide (n := 0)]
                refine callsIn_of_wp_marks hF hb trivial ?_
                have hm0 : MR w1 s { M with bad := none } w := bad_irrel hm none
                have hsz : F.ntmps ≤ (vs.toArray ++ Array.replicate (F.ntmps - vs.toArray.size) undef).size := by simp; omega
                have hL : LR s (paramEnv 0 args) (vs.toArray ++ Array.replicate (F.ntmps - vs.toArray.size) undef) := by
                  intro t v ht
                  obtain ⟨_, h2⟩ := paramEnv_get args 0 t v ht
                  rw [Nat.sub_zero] at h2
                  have hlt : t < args.length := (List.getElem?_eq_some_iff.1 h2).1
                  have hlt2 : t < vs.length := by omega
                  refine ⟨by simp; omega, ?_⟩
                  rw [Array.getD_eq_getD_getElem?, Array.getElem?_append_left (by simpa using hlt2)]
                  simp only [List.getElem?_toArray, List.getElem?_eq_getElem hlt2, Option.getD_some]
                  exact hv t v _ h2 (List.getElem?_eq_getElem hlt2)
                refine code_sound (rd := none) hmix (ih.of e1) hkeep hokc1 code fn.body s (paramEnv 0 args) { M with bad := none } w _ x env M1 _ hc (.inl rfl) hsz hev hL hm0 (fun l0 e => by cases e) fun s' a' w' g1 g2 g3 g4 g5 => ?_
                obtain ⟨bs, hbs, hnd, hdf⟩ := g4
                rw [List.append_nil] at hbs
                have goal : LeavesInM (wide none) 0 P F a'.tmps (fun e w' => ∃ v s', e = .returned v ∧ s.le s' ∧ VR s' r v ∧ MR w1 s' M' w') a'.defers .returning w' := by
                  rw [hbs]
                  refine leaves_marks bs s' w' g1 g2 g5 hnd hdf ?_
                  clear g1 g2 g5 hdf w' s'
                  intro s' w' g1 g2 g5
                  obtain ⟨v, q1, q2⟩ := results_run (P := P) g5 g2 hr hrs
                  have hkk := evC_keeps hkeep hev
                  have hrv : VR s' r v := by
                    rw [← hr1]
                    cases fn.keep
                    · exact q2.untag
                    · exact q2
                  have fin : ∃ s2, s.le s2 ∧ VR s2 r v ∧ MR w1 s2 M' w' := by
                    rw [← hr2, hr1]
                    unfold shrink
                    split
                    · rename_i hc2
                      simp only [Bool.and_eq_true] at hc2
                      obtain ⟨k1, k2⟩ := hm0.pop g1 g5 hkk hc2.2 M.bad
                      exact ⟨_, k2, hrv.cut hc2.1.2, k1⟩
                    · exact ⟨s', g1, hrv, bad_irrel g5 _⟩
                  obtain ⟨s2, k1, k2, k3⟩ := fin
                  exact ⟨v, q1, v, s2, rfl, k1, k2, k3⟩
                rcases hx with rfl | rfl
                · exact goal
                · exact goal
            split at h
            · exact main _ _ _ (by assumption) (.inl rfl) h
            · exact main _ _ _ (by assumption) (.inr rfl) h
            · cases h
          · cases h
        · cases hok
      · cases hok

end
end Go.Am
