/- An abstract machine for the part of Go that this program uses: what its evaluator tells of a call, the model's call does. -/
import Derived.Test.YtpjapbiljejdgaaAmRegE
import Derived.LoopNIn
namespace Go.Am
set_option linter.unusedSimpArgs false
set_option linter.unusedVariables false
set_option linter.unusedSectionVars false
set_option linter.unnecessarySimpa false
open Go Go.RowKit

mutual
theorem under_mono {n m : Nat} (h : n ≤ m) : ∀ (x : AV), AV.under n x = true → AV.under m x = true
  | .list (.own t) k xs, hu => by
    simp only [AV.under, Bool.and_eq_true, decide_eq_true_eq] at hu ⊢
    exact ⟨by omega, underAll_mono h xs hu.2⟩
  | .list .shared k xs, hu => by simp only [AV.under] at hu ⊢; exact underAll_mono h xs hu
  | .list .full k xs, hu => by simp only [AV.under] at hu ⊢; exact underAll_mono h xs hu
  | .ref a b c d, hu => by simp only [AV.under, decide_eq_true_eq] at hu ⊢; omega
  | .ptr a b c, hu => by simp only [AV.under, decide_eq_true_eq] at hu ⊢; omega
  | .map a, hu => by simp only [AV.under, decide_eq_true_eq] at hu ⊢; omega
  | .cptr x, hu => by simp only [AV.under] at hu ⊢; exact under_mono h x hu
  | .func g xs ys, hu => by simp only [AV.under, Bool.and_eq_true] at hu ⊢; exact ⟨underAll_mono h xs hu.1, underAll_mono h ys hu.2⟩
  | .iface t x, hu => by simp only [AV.under] at hu ⊢; exact under_mono h x hu
  | .agg xs, hu => by simp only [AV.under] at hu ⊢; exact underAll_mono h xs hu
  | .tuple xs, hu => by simp only [AV.under] at hu ⊢; exact underAll_mono h xs hu
  | .bool _, _ => by simp [AV.under]
  | .int _ _, _ => by simp [AV.under]
  | .str _, _ => by simp [AV.under]
  | .nilptr, _ => by simp [AV.under]
  | .nilmap, _ => by simp [AV.under]
  | .nilfunc, _ => by simp [AV.under]
  | .niliface, _ => by simp [AV.under]
theorem underAll_mono {n m : Nat} (h : n ≤ m) : ∀ (xs : List AV), AV.underAll n xs = true → AV.underAll m xs = true
  | [], _ => rfl
  | x :: xs, hu => by
    simp only [AV.underAll, Bool.and_eq_true] at hu ⊢
    exact ⟨under_mono h x hu.1, underAll_mono h xs hu.2⟩
end

theorem oUnder_mono {n m : Nat} (h : n ≤ m) {o : AObj} (hu : o.under n = true) : o.under m = true := by
  cases o with
  | row v cs => exact underAll_mono h cs hu
  | map es =>
    simp only [AObj.under, List.all_eq_true, Bool.and_eq_true] at hu ⊢
    exact fun e he => ⟨under_mono h _ (hu e he).1, under_mono h _ (hu e he).2⟩
  | tip n => rfl
  | dead => rfl

section
variable {P : Program} {w0 : World}

theorem VR.under {s : Sim} {n : Nat} (hs : ∀ id l, s.loc id = some l → id < n) {x : AV} {v : Value} (h : VR s x v) : AV.under n x = true := by
  have cells : ∀ (xs : List AV), (∀ (i : Nat) (x : AV), xs[i]? = some x → AV.under n x = true) → AV.underAll n xs = true := fun xs h => underAll_of h
  have ofCells : ∀ (x : AV), (∀ (j : Nat) (c : AV), x.cells[j]? = some c → AV.under n c = true) → AV.under n x = true := fun x h => by
    cases x
    case agg xs => rw [AV.under]; exact cells xs fun i y hy => h i y hy
    all_goals exact h 0 _ rfl
  have tag : ∀ (g : Tag) (k len : Nat) (a : Option Nat) (cap : Nat) (xs : List AV), TagOk s g k len a cap → AV.underAll n xs = true → AV.under n (.list g k xs) = true := fun g k len a cap xs ht hx => by
    cases g with
    | shared => simpa [AV.under] using hx
    | full => simpa [AV.under] using hx
    | own t =>
      obtain ⟨n', k', a', c', hl, _⟩ := ht
      simp only [AV.under, Bool.and_eq_true, decide_eq_true_eq]
      exact ⟨hs t _ hl, hx⟩
  induction h with
  | bool b => simp [AV.under]
  | int k n => simp [AV.under]
  | str x => simp [AV.under]
  | nil g k ht => exact tag g k _ _ _ [] ht rfl
  | void k a => simp [AV.under, AV.underAll]
  | list g k xs b o cap vs hcap hk hf hv ho ht ih => exact tag g k _ _ _ xs ht (cells xs fun i x hx => ofCells x fun j c hc => ih i x j c hx hc)
  | ref id ver off len b cap ver' b' hl hv hb hc => simp only [AV.under, decide_eq_true_eq]; exact hs id _ hl
  | ptr id ver off b ver' b' hl hv hb => simp only [AV.under, decide_eq_true_eq]; exact hs id _ hl
  | cptr x b o vs h0 hf hv ih => rw [AV.under]; exact ofCells x ih
  | nilptr => simp [AV.under]
  | map id b hl => simp only [AV.under, decide_eq_true_eq]; exact hs id _ hl
  | nilmap => simp [AV.under]
  | func g first caps fs cs h1 h2 _ _ ih1 ih2 =>
    rw [AV.under, Bool.and_eq_true]
    exact ⟨cells first fun i x hx => ih1 i x (fs[i]'(by have := (List.getElem?_eq_some_iff.1 hx).1; omega)) hx (List.getElem?_eq_getElem _), cells caps fun i x hx => ih2 i x (cs[i]'(by have := (List.getElem?_eq_some_iff.1 hx).1; omega)) hx (List.getElem?_eq_getElem _)⟩
  | nilfunc => simp [AV.under]
  | iface t x v _ ih => rw [AV.under]; exact ih
  | niliface => simp [AV.under]
  | agg xs vs hl ho _ ih => rw [AV.under]; exact cells xs fun i x hx => ih i x (vs[i]'(by have := (List.getElem?_eq_some_iff.1 hx).1; omega)) hx (List.getElem?_eq_getElem _)
  | tuple xs vs hl _ ih => rw [AV.under]; exact cells xs fun i x hx => ih i x (vs[i]'(by have := (List.getElem?_eq_some_iff.1 hx).1; omega)) hx (List.getElem?_eq_getElem _)

theorem OR.under {s : Sim} {w : World} {n id : Nat} (hs : ∀ id l, s.loc id = some l → id < n) {o : AObj} (h : OR s w id o) : o.under n = true := by
  cases o with
  | row ver cs =>
    obtain ⟨b, c, e, h1, h2, h3, h4, h5⟩ := h
    exact underAll_of fun i x hx => (h4 i x (c[i]'(by have := (List.getElem?_eq_some_iff.1 hx).1; omega)) hx (Array.getElem?_eq_getElem _)).1.under hs
  | map es =>
    obtain ⟨b, mes, clock, h1, h2, h3, h4⟩ := h
    simp only [AObj.under, List.all_eq_true, Bool.and_eq_true]
    intro e he
    obtain ⟨i, hi, rfl⟩ := List.mem_iff_getElem.1 he
    have hlt : i < mes.size := by omega
    obtain ⟨g1, g2⟩ := h4 i es[i] mes[i] (List.getElem?_eq_getElem hi) (Array.getElem?_eq_getElem hlt)
    exact ⟨g1.under hs, g2.under hs⟩
  | tip n => rfl
  | dead => rfl

/-- What was there before names nothing newer; so the newer may be dropped. -/
theorem MR.pop {s0 s : Sim} {M0 M : Mem} {w00 w : World} (h0 : MR w0 s0 M0 w00) (hle : s0.le s) (h : MR w0 s M w) (hk : Keeps M0 M) (hb : badOk M0.objs.length M.bad = true) (old : Option Nat) :
    MR w0 (s.cut M0.objs.length) { objs := M.objs.take M0.objs.length, bad := old } w ∧ s0.le (s.cut M0.objs.length) := by
  refine ⟨h.cut _ _ fun i o hi ho => (h.obj i o ho).cut hi ?_, ⟨hle.fz, fun id l hl => ?_⟩⟩
  · rcases hk.obj i o hi ho with h1 | h1 | ⟨b, h1, h2⟩
    · exact (h0.obj i o h1).under fun id l hl => h0.lt hl
    · exact oUnder_mono (by omega) h1
    · rw [h1] at hb
      simp only [badOk, decide_eq_true_eq] at hb
      omega
  · obtain ⟨l', h1, h2⟩ := hle.loc id l hl
    exact ⟨l', by simp [Sim.cut, h0.lt hl, h1], h2⟩

/-! The code. -/

def okC (P : Program) (nt : Nat) : Code → C → Bool
  | .skip, .skip => true
  | .region _ ops false, .reg is _ => okOpers P nt ops ops.toList is
  | .region _ ops true, .regD is _ => okD P nt ops is
  | .seq a b, .seq a' b' => okC P nt a a' && okC P nt b b'
  | .cond c a b, .cond c' a' b' => okArg c c' && okC P nt a a' && okC P nt b b'
  | .block id a, .block id' a' => id == id' && okC P nt a a'
  | .loop a, .loop _ _ a' => okC P nt a a'
  | .exit id, .exit id' => id == id'
  | .ret, .ret => true
  | _, _ => false

def X.exit : X → Exit
  | .nrm => .normal
  | .ext id => .exit id
  | .ret => .ret

theorem get_put {e : Env} {t u : Nat} {v : AV} : (e.put t v).get u = if t = u then some v else e.get u := by
  induction e with
  | nil => simp [Env.put, Env.get]
  | cons x e ih =>
    obtain ⟨s, y⟩ := x
    simp only [Env.put]
    split
    · rename_i h; subst h
      simp only [Env.get]
      split <;> rfl
    · rename_i h
      simp only [Env.get]
      split
      · rename_i h2; subst h2
        rw [if_neg (fun e => h e.symm)]
      · exact ih

theorem LR.keep {s : Sim} {e : Env} {tmps : Array Value} (h : LR s e tmps) : ∀ (ts : List Nat), LR s (e.keep ts) tmps := by
  intro ts
  induction ts with
  | nil => intro t v hv; simp [Env.keep, Env.get] at hv
  | cons t ts ih =>
    intro u x hx
    simp only [Env.keep] at hx
    split at hx
    · rename_i v hv
      simp only [Env.get] at hx
      split at hx
      · rename_i e1; subst e1
        simp only [Option.some.injEq] at hx; subst hx
        exact h _ _ hv
      · exact ih u x hx
    · exact ih u x hx

theorem LR.cut {s : Sim} {n : Nat} {e : Env} {tmps : Array Value} (h : LR s e tmps) (hu : AV.underAll n (e.map (·.2)) = true) : LR (s.cut n) e tmps := by
  intro t v hv
  obtain ⟨h1, h2⟩ := h t v hv
  refine ⟨h1, h2.cut ?_⟩
  have : ∃ i : Nat, (e.map (·.2))[i]? = some v := by
    clear h h1 h2 hu
    induction e with
    | nil => simp [Env.get] at hv
    | cons x e ih =>
      obtain ⟨s', y⟩ := x
      simp only [Env.get] at hv
      split at hv
      · simp only [Option.some.injEq] at hv; subst hv; exact ⟨0, rfl⟩
      · obtain ⟨i, hi⟩ := ih hv; exact ⟨i + 1, by simpa using hi⟩
  obtain ⟨i, hi⟩ := this
  exact underAll_get hu hi

theorem code_sound (hmix : P.follows .mixedOrders = true) {call : Nat → List AV → Mem → Option (AV × Mem)} (hcs : CallSound P w0 call) (hkeep : ∀ f args M r M', call f args M = some (r, M') → Keeps M M') {rd : Option Nat} {m nt n : Nat} :
    ∀ (code : Code) (c : C) (s : Sim) (env : Env) (M : Mem) (w : World) (a : Act) (x : X) (env' : Env) (M' : Mem) (Q : Exit → Act → World → Prop),
      okC P nt code c = true → nt ≤ a.tmps.size → evC call n c env M = some (x, env', M') → LR s env a.tmps → MR w0 s M w →
      (∀ s' a' w', s.le s' → LR s' env' a'.tmps → a'.tmps.size = a.tmps.size → a'.defers = a.defers → MR w0 s' M' w' → Q x.exit a' w') → code.wpIn (wide rd) m P Q a w := by
  intro code
  induction code with
  | skip =>
    intro c s env M w a x env' M' Q hok hnt h hL hm hQ
    cases c <;> simp only [okC] at hok <;> first | (cases hok; done) | skip
    simp only [evC, Option.some.injEq, Prod.mk.injEq] at h
    obtain ⟨rfl, rfl, rfl⟩ := h
    exact wpIn_skip (hQ s a w (.refl s) hL rfl rfl hm)
  | region id ops draw =>
    intro c s env M w a x env' M' Q hok hnt h hL hm hQ
    cases draw with
    | false =>
      cases c <;> simp only [okC] at hok <;> first | (cases hok; done) | skip
      rename_i is outs
      simp only [evC] at h
      split at h
      · cases h
      · rename_i L M1 h1
        simp only [Option.some.injEq, Prod.mk.injEq] at h
        obtain ⟨rfl, rfl, rfl⟩ := h
        refine wpIn_region ?_
        rw [List.range_eq_range']
        have := ops_sound hcs (r := rd) (n := m) (ops := ops) (Q := Q) ops.toList is 0 s M w env a L M1 (fun j hj => by simp) hok hnt h1 hL hm fun s' a' w' g1 g2 g3 g4 g5 => hQ s' a' w' g1 (g2.keep outs) g3 g4 g5
        simpa using this
    | true =>
      cases c <;> simp only [okC] at hok <;> first | (cases hok; done) | skip
      rename_i is outs
      simp only [evC] at h
      split at h
      · cases h
      · rename_i L M1 ms tr h1
        split at h
        · rename_i hst
          simp only [Option.some.injEq, Prod.mk.injEq] at h
          obtain ⟨rfl, rfl, rfl⟩ := h
          refine wpIn_region_any hmix ?_
          exact regD_sound hcs hok hnt h1 hst hL hm.drew fun s' a' w' g1 g2 g3 g4 g5 => hQ s' a' w' g1 (g2.keep outs) g3 g4 g5
        · cases h
  | seq p q ihp ihq =>
    intro c s env M w a x env' M' Q hok hnt h hL hm hQ
    cases c <;> simp only [okC] at hok <;> first | (cases hok; done) | skip
    rename_i p' q'
    simp only [Bool.and_eq_true] at hok
    simp only [evC] at h
    refine wpIn_seq ?_
    cases h1 : evC call n p' env M with
    | none => rw [h1] at h; cases h
    | some y =>
      obtain ⟨y, env1, M1⟩ := y
      rw [h1] at h
      refine ihp p' s env M w a y env1 M1 _ hok.1 hnt h1 hL hm fun s' a' w' g1 g2 g3 g4 g5 => ?_
      cases y with
      | nrm =>
        simp only at h
        exact ihq q' s' env1 M1 w' a' x env' M' Q hok.2 (by omega) h g2 g5 fun s2 a2 w2 k1 k2 k3 k4 k5 => hQ s2 a2 w2 (g1.trans k1) k2 (by omega) (k4.trans g4) k5
      | ext i =>
        simp only [Option.some.injEq, Prod.mk.injEq] at h
        obtain ⟨rfl, rfl, rfl⟩ := h
        exact hQ s' a' w' g1 g2 g3 g4 g5
      | ret =>
        simp only [Option.some.injEq, Prod.mk.injEq] at h
        obtain ⟨rfl, rfl, rfl⟩ := h
        exact hQ s' a' w' g1 g2 g3 g4 g5
  | cond cc p q ihp ihq =>
    intro c s env M w a x env' M' Q hok hnt h hL hm hQ
    cases c <;> simp only [okC] at hok <;> first | (cases hok; done) | skip
    rename_i cc' p' q'
    simp only [Bool.and_eq_true] at hok
    simp only [evC] at h
    split at h
    · rename_i e
      have hc := (okArg_ok hL hok.1.1 e).bool_inv
      exact wpIn_cond_true hc (ihp p' s env M w a x env' M' Q hok.1.2 hnt h hL hm hQ)
    · rename_i e
      have hc := (okArg_ok hL hok.1.1 e).bool_inv
      exact wpIn_cond_false hc (ihq q' s env M w a x env' M' Q hok.2 hnt h hL hm hQ)
    · cases h
  | block id p ih =>
    intro c s env M w a x env' M' Q hok hnt h hL hm hQ
    cases c <;> simp only [okC] at hok <;> first | (cases hok; done) | skip
    rename_i id' p'
    simp only [Bool.and_eq_true, beq_iff_eq] at hok
    obtain ⟨rfl, hok⟩ := hok
    simp only [evC] at h
    refine wpIn_block ?_
    cases h1 : evC call n p' env M with
    | none => rw [h1] at h; cases h
    | some y =>
      obtain ⟨y, env1, M1⟩ := y
      rw [h1] at h
      refine ih p' s env M w a y env1 M1 _ hok hnt h1 hL hm fun s' a' w' g1 g2 g3 g4 g5 => ?_
      cases y with
      | nrm =>
        simp only [Option.some.injEq, Prod.mk.injEq] at h
        obtain ⟨rfl, rfl, rfl⟩ := h
        exact hQ s' a' w' g1 g2 g3 g4 g5
      | ext i =>
        simp only at h
        simp only [X.exit, Exit.inBlock]
        split at h
        · rename_i e
          simp only [Option.some.injEq, Prod.mk.injEq] at h
          obtain ⟨rfl, rfl, rfl⟩ := h
          rw [if_pos e]
          exact hQ s' a' w' g1 g2 g3 g4 g5
        · rename_i e
          simp only [Option.some.injEq, Prod.mk.injEq] at h
          obtain ⟨rfl, rfl, rfl⟩ := h
          rw [if_neg e]
          exact hQ s' a' w' g1 g2 g3 g4 g5
      | ret =>
        simp only [Option.some.injEq, Prod.mk.injEq] at h
        obtain ⟨rfl, rfl, rfl⟩ := h
        exact hQ s' a' w' g1 g2 g3 g4 g5
  | loop p ih =>
    intro c s env M w a x env' M' Q hok hnt h hL hm hQ
    cases c <;> simp only [okC] at hok <;> first | (cases hok; done) | skip
    rename_i keep pop p'
    simp only [evC] at h
    refine wpIn_loop_rounds n ?_
    -- round by round
    have key : ∀ (k : Nat) (s1 : Sim) (env1 : Env) (M1 : Mem) (w1 : World) (a1 : Act), s.le s1 → LR s1 env1 a1.tmps → a1.tmps.size = a.tmps.size → a1.defers = a.defers → MR w0 s1 M1 w1 → Keeps M M1 →
        iter (evC call n p') keep (if pop then some (M.objs.length, M.bad) else none) k env1 M1 = some (x, env', M') → Code.roundsIn (wide rd) m P p Q k a1 w1 := by
      intro k
      induction k with
      | zero => intro s1 env1 M1 w1 a1 _ _ _ _ _ _ h; cases h
      | succ k ihk =>
        intro s1 env1 M1 w1 a1 hs hL1 hsz hdf hm1 hk1 h
        rw [roundsIn_succ]
        simp only [iter] at h
        -- what is dropped at the head
        obtain ⟨s2, q1, q2, q3, q4⟩ : ∃ s2, s.le s2 ∧ LR s2 (env1.keep keep) a1.tmps ∧ MR w0 s2 (popAt (if pop then some (M.objs.length, M.bad) else none) (env1.keep keep) M1) w1 ∧ Keeps M (popAt (if pop then some (M.objs.length, M.bad) else none) (env1.keep keep) M1) := by
          have hL2 := hL1.keep keep
          cases pop with
          | false => exact ⟨s1, hs, hL2, hm1, hk1⟩
          | true =>
            simp only [if_true, popAt]
            have hkk := popTo_keeps hk1 (env1.keep keep)
            unfold popTo at hkk ⊢
            split
            · rename_i hc
              simp only [Bool.and_eq_true] at hc
              obtain ⟨g1, g2⟩ := hm.pop hs hm1 hk1 hc.2 M.bad
              rw [if_pos (by simp [hc])] at hkk
              exact ⟨_, g2, hL2.cut hc.1, g1, hkk⟩
            · exact ⟨s1, hs, hL2, hm1, hk1⟩
        cases h1 : evC call n p' (env1.keep keep) (popAt (if pop then some (M.objs.length, M.bad) else none) (env1.keep keep) M1) with
        | none => rw [h1] at h; cases h
        | some y =>
          obtain ⟨y, env2, M2⟩ := y
          rw [h1] at h
          refine ih p' s2 _ _ w1 a1 y env2 M2 _ hok (by omega) h1 q2 q3 fun s' a' w' g1 g2 g3 g4 g5 => ?_
          cases y with
          | nrm =>
            simp only at h
            exact ihk s' env2 M2 w' a' (q1.trans g1) g2 (g3.trans hsz) (g4.trans hdf) g5 (q4.trans (evC_keeps hkeep h1)) h
          | ext i =>
            simp only [Option.some.injEq, Prod.mk.injEq] at h
            obtain ⟨rfl, rfl, rfl⟩ := h
            exact hQ s' a' w' (q1.trans g1) g2 (g3.trans hsz) (g4.trans hdf) g5
          | ret =>
            simp only [Option.some.injEq, Prod.mk.injEq] at h
            obtain ⟨rfl, rfl, rfl⟩ := h
            exact hQ s' a' w' (q1.trans g1) g2 (g3.trans hsz) (g4.trans hdf) g5
    exact key n s env M w a (.refl s) hL rfl rfl hm (Keeps.refl M) h
  | exit id =>
    intro c s env M w a x env' M' Q hok hnt h hL hm hQ
    cases c <;> simp only [okC] at hok <;> first | (cases hok; done) | skip
    simp only [beq_iff_eq] at hok
    subst hok
    simp only [evC, Option.some.injEq, Prod.mk.injEq] at h
    obtain ⟨rfl, rfl, rfl⟩ := h
    exact wpIn_exit (hQ s a w (.refl s) hL rfl rfl hm)
  | ret =>
    intro c s env M w a x env' M' Q hok hnt h hL hm hQ
    cases c <;> simp only [okC] at hok <;> first | (cases hok; done) | skip
    simp only [evC, Option.some.injEq, Prod.mk.injEq] at h
    obtain ⟨rfl, rfl, rfl⟩ := h
    exact wpIn_ret (hQ s a w (.refl s) hL rfl rfl hm)
  | rangeFunc f ps as b iha ihb =>
    intro c s env M w a x env' M' Q hok
    cases c <;> simp only [okC] at hok <;> cases hok
  | scope b ih =>
    intro c s env M w a x env' M' Q hok
    cases c <;> simp only [okC] at hok <;> cases hok
  | label l =>
    intro c s env M w a x env' M' Q hok
    cases c <;> simp only [okC] at hok <;> cases hok
  | goto l =>
    intro c s env M w a x env' M' Q hok
    cases c <;> simp only [okC] at hok <;> cases hok
  | refuse why =>
    intro c s env M w a x env' M' Q hok
    cases c <;> simp only [okC] at hok <;> cases hok

/-! Functions. -/

def okRes (P : Program) : List ResultVar → List (Nat × Option (Option Nat)) → Bool
  | [], [] => true
  | .tmp t :: rs, (t', none) :: qs => t == t' && okRes P rs qs
  | .cell t ty :: rs, (t', some k) :: qs => t == t' && okPart P ty k && okRes P rs qs
  | _, _ => false

def resRun (tmps : Array Value) : ResultVar → Sem Value
  | .tmp t => pure (tmps.getD t undef)
  | .cell a t => do loadVar t (← asAddr (tmps.getD a undef))

theorem results_eq (fn : Func) (tmps : Array Value) : results fn tmps = (do
    let vs ← fn.results.mapM (resRun tmps)
    pure (if h : vs.size = 1 then vs[0] else .tuple vs)) := by
  have : (fun x => match x with
    | .tmp t => (pure (tmps.getD t undef) : Sem Value)
    | .cell a t => do loadVar t (← asAddr (tmps.getD a undef))) = resRun tmps := by
    funext x; cases x <;> rfl
  rw [← this]
  rfl

theorem results_list {s : Sim} {w : World} {M : Mem} {tmps : Array Value} {env : Env} (hm : MR w0 s M w) (hL : LR s env tmps) : ∀ (rs : List ResultVar) (qs : List (Nat × Option (Option Nat))) (us : List AV), okRes P rs qs = true → resVal env M qs = some us →
    ∃ vs : List Value, (rs.mapM (resRun tmps)).run P w = .ok vs w ∧ us.length = vs.length ∧ ∀ (i : Nat) (x : AV) (v : Value), us[i]? = some x → vs[i]? = some v → VR s x v := by
  intro rs
  induction rs with
  | nil =>
    intro qs us hok h
    cases qs with
    | nil =>
      simp only [resVal, Option.some.injEq] at h; subst h
      exact ⟨[], by simp, rfl, by simp⟩
    | cons q qs => simp [okRes] at hok
  | cons r rs ih =>
    intro qs us hok h
    cases qs with
    | nil => cases r <;> simp [okRes] at hok
    | cons q qs =>
      obtain ⟨t', c⟩ := q
      simp only [resVal] at h
      split at h
      · cases h
      · rename_i v hv
        split at h
        · cases h
        · rename_i u hu
          split at h
          · cases h
          · rename_i us1 h1
            simp only [Option.some.injEq] at h; subst h
            have hx := (hL _ _ hv).2
            cases r with
            | tmp t =>
              cases c with
              | some k => simp [okRes] at hok
              | none =>
                simp only [okRes, Bool.and_eq_true, beq_iff_eq] at hok
                obtain ⟨rfl, hok⟩ := hok
                simp only [Option.some.injEq] at hu
                subst hu
                obtain ⟨vs, g1, g2, g3⟩ := ih qs us1 hok h1
                refine ⟨tmps.getD t undef :: vs, ?_, by simp [g2], fun i x v hx' hv' => ?_⟩
                · simp only [List.mapM_cons, resRun, Sem.run_bind, Sem.run_pure, Result.andThen_ok, g1]
                · cases i with
                  | zero => simp only [List.getElem?_cons_zero, Option.some.injEq] at hx' hv'; subst hx'; subst hv'; exact hx
                  | succ i => exact g3 i x v (by simpa using hx') (by simpa using hv')
            | cell t ty =>
              cases c with
              | none => simp [okRes] at hok
              | some k =>
                simp only [okRes, Bool.and_eq_true, beq_iff_eq] at hok
                obtain ⟨⟨rfl, hp⟩, hok⟩ := hok
                simp only at hu
                obtain ⟨z, l1, l2⟩ := load_run (P := P) hm hp hx hu
                obtain ⟨vs, g1, g2, g3⟩ := ih qs us1 hok h1
                have haddr : ∃ ad, tmps.getD t undef = .pointer (some ad) := by
                  generalize tmps.getD t undef = pv at hx
                  unfold Mem.load at hu
                  split at hu
                  · cases hx; exact ⟨_, rfl⟩
                  · cases hx; exact ⟨_, rfl⟩
                  · cases hu
                obtain ⟨ad, had⟩ := haddr
                rw [had] at l1
                simp only [Instr.loadAt, Instr.sureAddr, Sem.run_bind, Sem.run_pure, Result.andThen_ok] at l1
                refine ⟨z :: vs, ?_, by simp [g2], fun i x v hx' hv' => ?_⟩
                · simp only [List.mapM_cons, resRun, Sem.run_bind, had, asAddr, Sem.run_pure, Result.andThen_ok, l1, g1]
                · cases i with
                  | zero => simp only [List.getElem?_cons_zero, Option.some.injEq] at hx' hv'; subst hx'; subst hv'; exact l2
                  | succ i => exact g3 i x v (by simpa using hx') (by simpa using hv')

theorem results_run {s : Sim} {w : World} {M : Mem} {fn : Func} {tmps : Array Value} {env : Env} {qs : List (Nat × Option (Option Nat))} {us : List AV} (hm : MR w0 s M w) (hL : LR s env tmps) (hok : okRes P fn.results.toList qs = true) (h : resVal env M qs = some us) :
    ∃ v, (results fn tmps).run P w = .ok v w ∧ VR s (packRes us) v := by
  obtain ⟨vs, g1, g2, g3⟩ := results_list (P := P) hm hL _ _ _ hok h
  refine ⟨if h : vs.length = 1 then vs[0] else .tuple vs.toArray, ?_, ?_⟩
  · rw [results_eq, Array.mapM_eq_mapM_toList]
    simp only [Sem.run_bind, Sem.run_map, g1, Result.andThen_ok, Sem.run_pure]
    congr 1
  · by_cases h1 : vs.length = 1
    · rw [dif_pos h1]
      obtain ⟨v, rfl⟩ := List.length_eq_one_iff.1 h1
      obtain ⟨u, rfl⟩ := List.length_eq_one_iff.1 (g2.trans h1)
      exact g3 0 u v rfl rfl
    · rw [dif_neg h1]
      have : packRes us = .tuple us := by
        cases us with
        | nil => rfl
        | cons a us => cases us with
          | nil => simp at g2; omega
          | cons b us => rfl
      rw [this]
      exact .tuple us vs g2 g3

def okFn (P : Program) (f : Nat) (fn : IFn) : Bool :=
  match P.funcs[f]? with
  | some F => match F.body with
    | some code => decide (F.name ≠ "runtime.NumGoroutine") && okC P F.ntmps code fn.body && okRes P F.results.toList fn.res
    | none => false
  | none => false

theorem paramEnv_get : ∀ (args : List AV) (k t : Nat) (v : AV), (paramEnv k args).get t = some v → k ≤ t ∧ args[t - k]? = some v := by
  intro args
  induction args with
  | nil => intro k t v h; simp [paramEnv, Env.get] at h
  | cons a args ih =>
    intro k t v h
    simp only [paramEnv, Env.get] at h
    split at h
    · rename_i e; subst e
      simp only [Option.some.injEq] at h; subst h
      exact ⟨Nat.le_refl _, by simp⟩
    · rename_i e
      obtain ⟨h1, h2⟩ := ih (k + 1) t v h
      refine ⟨by omega, ?_⟩
      have : t - k = (t - (k + 1)) + 1 := by omega
      rw [this]; simpa using h2

theorem run_callFunc {f : Nat} {F : Func} {code : Code} (hF : P.funcs[f]? = some F) (hb : F.body = some code) (hn : F.name ≠ "runtime.NumGoroutine") (vs : Array Value) (w : World) : (callFunc f vs).run P w = .ok (.enter f vs) w := by
  simp only [callFunc, Sem.run_bind, run_program, Result.andThen_ok, hF]
  rw [if_neg (by simpa using hn), if_neg (by simp [hb])]
  rfl

/-- WHAT THE EVALUATOR TELLS OF A CALL, THE CALL DOES. -/
theorem callN_sound (hmix : P.follows .mixedOrders = true) {T : Nat → Option IFn} (hT : ∀ f fn, T f = some fn → okFn P f fn = true) : ∀ n, CallSound P w0 (callN T n) := by
  intro n
  induction n with
  | zero => intro f args M r M' h; cases h
  | succ n ih =>
    intro f args M r M' h
    simp only [callN] at h
    split at h
    · cases h
    · rename_i fn hfn
      have hok := hT f fn hfn
      unfold okFn at hok
      split at hok
      · rename_i F hF
        split at hok
        · rename_i code hb
          simp only [Bool.and_eq_true, decide_eq_true_eq] at hok
          obtain ⟨⟨hname, hc⟩, hr⟩ := hok
          refine ⟨fun vs w => run_callFunc hF hb hname vs w, fun s w vs hm hl hv => ?_⟩
          unfold runFn at h
          split at h
          · rename_i hpar
            have hkeep := callN_keeps (T := T) n
            have main : ∀ (x : X) (env : Env) (M1 : Mem), evC (callN T n) n fn.body (paramEnv 0 args) { M with bad := none } = some (x, env, M1) → (x = .nrm ∨ x = .ret) →
                (match resVal env M1 fn.res with | none => none | some rs => some ((if fn.keep then packRes rs else (packRes rs).untag), shrink M.objs.length M.bad fn.pop (if fn.keep then packRes rs else (packRes rs).untag) M1)) = some (r, M') →
                Calls P f vs.toArray w fun e w' => ∃ v s', e = .returned v ∧ s.le s' ∧ VR s' r v ∧ MR w0 s' M' w' := by
              intro x env M1 hev hx hres
              split at hres
              · cases hres
              · rename_i rs hrs
                simp only [Option.some.injEq, Prod.mk.injEq] at hres
                obtain ⟨hr1, hr2⟩ := hres
                rw [← callsIn_wide (n := 0)]
                refine callsIn_of_wp hF hb trivial ?_
                have hm0 : MR w0 s { M with bad := none } w := bad_irrel hm none
                have hsz : F.ntmps ≤ (vs.toArray ++ Array.replicate (F.ntmps - vs.toArray.size) undef).size := by simp; omega
                have hL : LR s (paramEnv 0 args) (vs.toArray ++ Array.replicate (F.ntmps - vs.toArray.size) undef) := by
                  intro t v ht
                  obtain ⟨_, h2⟩ := paramEnv_get args 0 t v ht
                  rw [Nat.sub_zero] at h2
                  have hlt : t < args.length := (List.getElem?_eq_some_iff.1 h2).1
                  have hlt2 : t < vs.length := by omega
                  refine ⟨by simp; omega, ?_⟩
                  rw [Array.getD_eq_getD_getElem?, Array.getElem?_append_left (by simpa using hlt2)]
                  simp only [List.getElem?_toArray, List.getElem?_eq_getElem hlt2, Option.getD_some]
                  exact hv t v _ h2 (List.getElem?_eq_getElem hlt2)
                refine code_sound (rd := none) hmix ih hkeep code fn.body s (paramEnv 0 args) { M with bad := none } w _ x env M1 _ hc hsz hev hL hm0 fun s' a' w' g1 g2 g3 g4 g5 => ?_
                obtain ⟨v, q1, q2⟩ := results_run (P := P) g5 g2 hr hrs
                have hkk := evC_keeps hkeep hev
                have hrv : VR s' r v := by
                  rw [← hr1]
                  cases fn.keep
                  · exact q2.untag
                  · exact q2
                have fin : ∃ s2, s.le s2 ∧ VR s2 r v ∧ MR w0 s2 M' w' := by
                  rw [← hr2, hr1]
                  unfold shrink
                  split
                  · rename_i hc2
                    simp only [Bool.and_eq_true] at hc2
                    obtain ⟨k1, k2⟩ := hm0.pop g1 g5 hkk hc2.2 M.bad
                    exact ⟨_, k2, hrv.cut hc2.1.2, k1⟩
                  · exact ⟨s', g1, hrv, bad_irrel g5 _⟩
                obtain ⟨s2, k1, k2, k3⟩ := fin
                have post : bodyPost P F (fun e w' => ∃ v s', e = .returned v ∧ s.le s' ∧ VR s' r v ∧ MR w0 s' M' w') .normal a' w' := ⟨g4, v, q1, v, s2, rfl, k1, k2, k3⟩
                rcases hx with rfl | rfl
                · exact post
                · exact post
            split at h
            · exact main _ _ _ (by assumption) (.inl rfl) h
            · exact main _ _ _ (by assumption) (.inr rfl) h
            · cases h
          · cases h
        · cases hok
      · cases hok

end
end Go.Am
