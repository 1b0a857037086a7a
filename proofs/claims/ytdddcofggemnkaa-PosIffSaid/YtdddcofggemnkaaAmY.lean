/- An abstract machine for the part of Go that this program uses: what is proved of code whose regions come in any order holds of the run; a law whose function has such a region. -/
import Derived.Test.YtdddcofggemnkaaAmX
namespace Go.Am
set_option linter.all false
open Go Go.RowKit

def okX (P : Program) (nt : Nat) : Code → C → Bool
  | .seq a b, .seq a' b' => okX P nt a a' && okX P nt b b'
  | .seq a b, .seqT a' _ b' => okX P nt a a' && okX P nt b b'
  | .cond c a b, .cond c' a' b' => okArg c c' && okX P nt a a' && okX P nt b b'
  | .block id a, .block id' a' => id == id' && okX P nt a a'
  | .region id ops true, .regD is outs => match isX is with
    | true => okT P nt ops is
    | false => okC P nt (.region id ops true) (.regD is outs)
  | code, c => okC P nt code c

section
variable {P : Program} {w0 : Base}

theorem wpcode_sound (hmix : P.follows .mixedOrders = true) {call : Nat → List AV → Mem → Option (AV × Mem)} (hcs : CallSound P w0 call) (hkeep : ∀ f args M r M', call f args M = some (r, M') → Keeps M M') (hokc : ∀ nt code c, w0.okc nt code c ↔ okC P nt code c = true) {m nt : Nat} :
    ∀ (code : Code) (c : C) (s : Sim) (env : Env) (M : Mem) (w : World) (a : Act) (kn : Env → Mem → Prop) (kx : X → Env → Mem → Prop) (Q : Exit → Act → World → Prop),
      okX P nt code c = true → nt ≤ a.tmps.size → LR s env a.tmps → MR w0 s M w → WPc call c env M kn kx →
      (∀ x e M' s' a' w', outP kn kx x e M' → s.le s' → LR s' e a'.tmps → a'.tmps.size = a.tmps.size → Marks s s' a'.defers a.defers → MR w0 s' M' w' → Q x.exit a' w') → code.wpIn (wide none) m P Q a w := by
  -- what is run as it is
  have leaf : ∀ (code : Code) (c : C) (s : Sim) (env : Env) (M : Mem) (w : World) (a : Act) (kn : Env → Mem → Prop) (kx : X → Env → Mem → Prop) (Q : Exit → Act → World → Prop),
      okC P nt code c = true → nt ≤ a.tmps.size → LR s env a.tmps → MR w0 s M w → (∃ n x e m, evC call n c env M = some (x, e, m) ∧ match x with | .nrm => kn e m | x => kx x e m) →
      (∀ x e M' s' a' w', outP kn kx x e M' → s.le s' → LR s' e a'.tmps → a'.tmps.size = a.tmps.size → Marks s s' a'.defers a.defers → MR w0 s' M' w' → Q x.exit a' w') → code.wpIn (wide none) m P Q a w := by
    intro code c s env M w a kn kx Q hok hnt hL hm ⟨n, x, e, m', h1, h2⟩ hQ
    refine code_sound (rd := none) hmix hcs hkeep hokc code c s env M w a x e m' Q hok hnt h1 hL hm (fun l0 e => by cases e) fun s' a' w' g1 g2 g3 g4 g5 => hQ x e m' s' a' w' ?_ g1 g2 g3 g4 g5
    cases x <;> exact h2
  -- a pair, the second as the first ends
  have two : ∀ (p q : Code) (a' b' : C) (f : Env → Env), (∀ s e tmps, LR s e tmps → LR s (f e) tmps) →
      (∀ (s : Sim) (env : Env) (M : Mem) (w : World) (a : Act) (kn : Env → Mem → Prop) (kx : X → Env → Mem → Prop) (Q : Exit → Act → World → Prop), nt ≤ a.tmps.size → LR s env a.tmps → MR w0 s M w → WPc call a' env M kn kx →
        (∀ x e M' s' a' w', outP kn kx x e M' → s.le s' → LR s' e a'.tmps → a'.tmps.size = a.tmps.size → Marks s s' a'.defers a.defers → MR w0 s' M' w' → Q x.exit a' w') → p.wpIn (wide none) m P Q a w) →
      (∀ (s : Sim) (env : Env) (M : Mem) (w : World) (a : Act) (kn : Env → Mem → Prop) (kx : X → Env → Mem → Prop) (Q : Exit → Act → World → Prop), nt ≤ a.tmps.size → LR s env a.tmps → MR w0 s M w → WPc call b' env M kn kx →
        (∀ x e M' s' a' w', outP kn kx x e M' → s.le s' → LR s' e a'.tmps → a'.tmps.size = a.tmps.size → Marks s s' a'.defers a.defers → MR w0 s' M' w' → Q x.exit a' w') → q.wpIn (wide none) m P Q a w) →
      ∀ (s : Sim) (env : Env) (M : Mem) (w : World) (a : Act) (kn : Env → Mem → Prop) (kx : X → Env → Mem → Prop) (Q : Exit → Act → World → Prop), nt ≤ a.tmps.size → LR s env a.tmps → MR w0 s M w →
        WPc call a' env M (fun e m => WPc call b' (f e) m kn kx) kx →
        (∀ x e M' s' a' w', outP kn kx x e M' → s.le s' → LR s' e a'.tmps → a'.tmps.size = a.tmps.size → Marks s s' a'.defers a.defers → MR w0 s' M' w' → Q x.exit a' w') → (Code.seq p q).wpIn (wide none) m P Q a w := by
    intro p q a' b' f hf hp hq s env M w a kn kx Q hnt hL hm h hQ
    refine wpIn_seq (hp s env M w a _ kx _ hnt hL hm h fun x e M' s' a2 w' ho g1 g2 g3 g4 g5 => ?_)
    cases x with
    | nrm =>
      exact hq s' (f e) M' w' a2 kn kx Q (by omega) (hf _ _ _ g2) g5 ho fun x e M2 s2 a3 w2 ho k1 k2 k3 k4 k5 => hQ x e M2 s2 a3 w2 ho (g1.trans k1) k2 (by omega) (g4.trans k4 g1 k1) k5
    | ext i => exact hQ (.ext i) e M' s' a2 w' ho g1 g2 g3 g4 g5
    | ret => exact hQ .ret e M' s' a2 w' ho g1 g2 g3 g4 g5
  intro code
  induction code with
  | seq p q ihp ihq =>
    intro c s env M w a kn kx Q hok hnt hL hm h hQ
    cases c <;> simp only [okX] at hok <;> first | (simp only [okC] at hok; cases hok; done) | skip
    · rename_i p' q'
      simp only [Bool.and_eq_true] at hok
      exact two p q p' q' (fun e => e) (fun _ _ _ h => h) (fun s env M w a kn kx Q => ihp p' s env M w a kn kx Q hok.1) (fun s env M w a kn kx Q => ihq q' s env M w a kn kx Q hok.2) s env M w a kn kx Q hnt hL hm h hQ
    · rename_i p' outs q'
      simp only [Bool.and_eq_true] at hok
      exact two p q p' q' (fun e => e.keep outs) (fun _ _ _ h => h.keep outs) (fun s env M w a kn kx Q => ihp p' s env M w a kn kx Q hok.1) (fun s env M w a kn kx Q => ihq q' s env M w a kn kx Q hok.2) s env M w a kn kx Q hnt hL hm h hQ
  | cond cc p q ihp ihq =>
    intro c s env M w a kn kx Q hok hnt hL hm h hQ
    cases c <;> simp only [okX] at hok <;> first | (simp only [okC] at hok; cases hok; done) | skip
    rename_i cc' p' q'
    simp only [Bool.and_eq_true] at hok
    simp only [WPc] at h
    split at h
    · rename_i e
      exact wpIn_cond_true (okArg_ok hL hok.1.1 e).bool_inv (ihp p' s env M w a kn kx Q hok.1.2 hnt hL hm h hQ)
    · rename_i e
      exact wpIn_cond_false (okArg_ok hL hok.1.1 e).bool_inv (ihq q' s env M w a kn kx Q hok.2 hnt hL hm h hQ)
    · exact h.elim
  | block id p ih =>
    intro c s env M w a kn kx Q hok hnt hL hm h hQ
    cases c <;> simp only [okX] at hok <;> first | (simp only [okC] at hok; cases hok; done) | skip
    rename_i id' p'
    simp only [Bool.and_eq_true, beq_iff_eq] at hok
    obtain ⟨rfl, hok⟩ := hok
    simp only [WPc] at h
    refine wpIn_block (ih p' s env M w a _ _ _ hok hnt hL hm h fun x e M' s' a' w' ho g1 g2 g3 g4 g5 => ?_)
    cases x with
    | nrm => exact hQ .nrm e M' s' a' w' ho g1 g2 g3 g4 g5
    | ret => exact hQ .ret e M' s' a' w' ho g1 g2 g3 g4 g5
    | ext i =>
      simp only [outP] at ho
      simp only [X.exit, Exit.inBlock]
      split at ho
      · rename_i e1; rw [if_pos e1]; exact hQ .nrm e M' s' a' w' ho g1 g2 g3 g4 g5
      · rename_i e1; rw [if_neg e1]; exact hQ (.ext i) e M' s' a' w' ho g1 g2 g3 g4 g5
  | region id ops draw =>
    intro c s env M w a kn kx Q hok hnt hL hm h hQ
    cases draw with
    | false =>
      cases c <;> simp only [okX] at hok <;> first | (simp only [okC] at hok; cases hok; done) | skip
      exact leaf _ _ s env M w a kn kx Q hok hnt hL hm h hQ
    | true =>
      cases c <;> simp only [okX] at hok <;> first | (simp only [okC] at hok; cases hok; done) | skip
      rename_i is outs
      simp only [WPc] at h
      cases hx : isX is with
      | false => rw [hx] at h hok; exact leaf _ _ s env M w a kn kx Q hok hnt hL hm h hQ
      | true =>
        rw [hx] at h hok
        refine wpIn_region_any hmix ?_
        have hlen := (okT_parts hok).1
        simp only at h
        rw [hlen] at h
        exact tree_sound hcs (r := none) (n := m) hok (s0 := s) (a0 := a) hnt (fun s' a' w' L' M' g1 g2 g3 g4 g5 g6 => hQ .nrm _ M' s' a' w' g2 g1 (g3.keep outs) g4 (.of_eq g5) g6) ops.size 0 _ s env M a _ (by simp) (fun i hi => by simp [Array.getD]) (.refl s) hL rfl rfl hm.drew h
  | skip =>
    intro c s env M w a kn kx Q hok hnt hL hm h hQ
    cases c <;> simp only [okX] at hok <;> first | (simp only [okC] at hok; cases hok; done) | skip
    exact leaf _ _ s env M w a kn kx Q hok hnt hL hm ⟨0, .nrm, env, M, rfl, h⟩ hQ
  | ret =>
    intro c s env M w a kn kx Q hok hnt hL hm h hQ
    cases c <;> simp only [okX] at hok <;> first | (simp only [okC] at hok; cases hok; done) | skip
    exact leaf _ _ s env M w a kn kx Q hok hnt hL hm ⟨0, .ret, env, M, rfl, h⟩ hQ
  | exit id =>
    intro c s env M w a kn kx Q hok hnt hL hm h hQ
    cases c <;> simp only [okX] at hok <;> first | (simp only [okC] at hok; cases hok; done) | skip
    exact leaf _ _ s env M w a kn kx Q hok hnt hL hm ⟨0, .ext _, env, M, rfl, h⟩ hQ
  | loop p _ =>
    intro c s env M w a kn kx Q hok hnt hL hm h hQ
    cases c <;> simp only [okX] at hok <;> first | (simp only [okC] at hok; cases hok; done) | skip
    exact leaf _ _ s env M w a kn kx Q hok hnt hL hm h hQ
  | rangeFunc f ps p q _ _ =>
    intro c s env M w a kn kx Q hok hnt hL hm h hQ
    cases c <;> simp only [okX] at hok <;> first | (simp only [okC] at hok; cases hok; done) | skip
    exact leaf _ _ s env M w a kn kx Q hok hnt hL hm h hQ
  | _ =>
    intro c s env M w a kn kx Q hok hnt hL hm h hQ
    cases c <;> simp only [okX, okC] at hok <;> cases hok

end

def okFnX (P : Program) (f : Nat) (fn : IFn) : Bool :=
  match P.funcs[f]? with
  | some F => match F.body with
    | some code => decide (f < yb) && decide (F.name ≠ "runtime.NumGoroutine") && okX P F.ntmps code fn.body && okRes P F.results.toList fn.res
    | none => false
  | none => false

/-- The law's end: it answers 'true'. -/
def Yes (fn : IFn) : X → Env → Mem → Prop
  | .ext _, _, _ => False
  | _, e, m => ∃ rs, resVal e m fn.res = some rs ∧ packRes rs = .bool true

/-- A law that is true in whatever order is true. -/
theorem law_callsX {P : Program} {W : World} (hmix : P.follows .mixedOrders = true) {T : Nat → Option IFn} (hT : ∀ f fn, T f = some fn → okFn P f fn = true) (hO : ∀ f fn, T f = some fn → OrcSound P (okc0 P) f fn) {f : Nat} {fn : IFn} {args : List AV} {vs : List Value}
    (hok : okFnX P f fn = true) (hp : args.length = fn.params) (h : WPc (Am.Call T) fn.body (paramEnv 0 args) ⟨[], none⟩ (Yes fn .nrm) (Yes fn)) (hl : args.length = vs.length) (hv : ∀ (i : Nat) (x : AV) (v : Value), args[i]? = some x → vs[i]? = some v → VR (sim0 W) x v) :
    Calls P f vs.toArray W fun e W' => e = .returned (.bool true) ∧ RowKit.Below W.heap.size W W' := by
  have hkeep : ∀ f args M r M', Am.Call T f args M = some (r, M') → Keeps M M' := fun f args M r M' h => by
    obtain ⟨n, hn⟩ := call_some.1 h
    exact callN_keeps (T := T) (fun f fn h args M r M' e => (hO f fn h args M r M' e).1) n f args M r M' hn
  have hcs : CallSound P (base0 P W) (Am.Call T) := fun f args M r M' h => by
    obtain ⟨n, hn⟩ := call_some.1 h
    exact callN_sound (w0 := base0 P W) hmix hT hO (fun _ _ _ => Iff.rfl) n f args M r M' hn
  unfold okFnX at hok
  split at hok
  · rename_i F hF
    split at hok
    · rename_i code hb
      simp only [Bool.and_eq_true, decide_eq_true_eq] at hok
      obtain ⟨⟨⟨hyb, hname⟩, hc⟩, hr⟩ := hok
      rw [← callsIn_wide (n := 0)]
      refine callsIn_of_wp_marks hF hb trivial ?_
      have hsz : F.ntmps ≤ (vs.toArray ++ Array.replicate (F.ntmps - vs.toArray.size) undef).size := by simp; omega
      have hL : LR (sim0 W) (paramEnv 0 args) (vs.toArray ++ Array.replicate (F.ntmps - vs.toArray.size) undef) := by
        intro t v ht
        obtain ⟨_, h2⟩ := paramEnv_get args 0 t v ht
        rw [Nat.sub_zero] at h2
        have hlt : t < args.length := (List.getElem?_eq_some_iff.1 h2).1
        have hlt2 : t < vs.length := by omega
        refine ⟨by simp; omega, ?_⟩
        rw [Array.getD_eq_getD_getElem?, Array.getElem?_append_left (by simpa using hlt2)]
        simp only [List.getElem?_toArray, List.getElem?_eq_getElem hlt2, Option.getD_some]
        exact hv t v _ h2 (List.getElem?_eq_getElem hlt2)
      refine wpcode_sound hmix hcs hkeep (fun _ _ _ => Iff.rfl) code fn.body (sim0 W) (paramEnv 0 args) ⟨[], none⟩ W _ _ _ _ hc hsz hL (mr0 P W) h fun x e M' s' a' w' ho g1 g2 g3 g4 g5 => ?_
      have ho' : (x = .nrm ∨ x = .ret) ∧ ∃ rs, resVal e M' fn.res = some rs ∧ packRes rs = .bool true := by
        cases x with
        | nrm => exact ⟨.inl rfl, ho⟩
        | ret => exact ⟨.inr rfl, ho⟩
        | ext i => exact ho.elim
      obtain ⟨hx, rs, hrs, hpk⟩ := ho'
      obtain ⟨bs, hbs, hnd, hdf⟩ := g4
      rw [List.append_nil] at hbs
      have goal : LeavesInM (wide none) 0 P F a'.tmps (fun e W' => e = .returned (.bool true) ∧ RowKit.Below W.heap.size W W') a'.defers .returning w' := by
        rw [hbs]
        refine leaves_marks bs s' w' g1 g2 g5 hnd hdf ?_
        clear g1 g2 g5 hdf w' s'
        intro s' w' g1 g2 g5
        obtain ⟨v, q1, q2⟩ := results_run (P := P) g5 g2 hr hrs
        rw [hpk] at q2
        cases q2
        exact ⟨_, q1, rfl, g5.below⟩
      rcases hx with rfl | rfl
      · exact goal
      · exact goal
    · cases hok
  · cases hok

end Go.Am
