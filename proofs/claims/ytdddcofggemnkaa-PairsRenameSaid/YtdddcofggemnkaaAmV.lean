/- An abstract machine for the part of Go that this program uses: what loops over iterators tell. -/
import Derived.Test.YtdddcofggemnkaaAmZ
namespace Go.Am
set_option linter.all false
open Go

theorem evK_out {T : Nat → Option IFn} {n : Nat} {c : C} {env : Env} {M : Mem} {kn : Env → Mem → Prop} {kx : X → Env → Mem → Prop} (h : Tells (evK (Call T) n c env M (asN kn) (asX kx)) fun _ _ => True) : ∃ x e m, Ev T c env M = some (x, e, m) ∧ outP kn kx x e m := by
  obtain ⟨r, m, h, _⟩ := h.out
  have h1 := evK_le (c := c) (env := env) (M := M) (fun e m => Rho.le_refl (asN kn e m)) (fun x e m => Rho.le_refl (asX kx x e m)) _ h
  unfold bindC at h1
  split at h1
  · cases h1
  · rename_i h2; exact ⟨_, _, _, evC_Ev h2, asN_some h1⟩
  · rename_i x e m hx h2
    refine ⟨x, e, m, evC_Ev h2, ?_⟩
    cases x with
    | nrm => exact (hx rfl).elim
    | ext i => exact asX_some h1
    | ret => exact asX_some h1

/-- One round: the loop's variables are laid, the body is run; how it ended is told. -/
theorem Tells.round {T : Nat → Option IFn} {y : Nat} (hT : T (yb + y) = none) {ps : List Nat} {as body : C} {env : Env} {args : List AV} {m : Mem} {n : Nat} {P : AV → Mem → Prop} (hy : m.objs[y]? = some (.loop ps as body env .ready)) (hl : args.length = ps.length)
    (h : Tells (evK (Call T) n as (ps.zip args ++ env) m (asN fun e1 m1 => m1.objs[y]? = some (.loop ps as body env .ready) ∧
      Tells (evK (Call T) n body e1 (m1.mark y (.loop ps as body env .busy)) (asN fun _ m2 => m2.objs[y]? = some (.loop ps as body env .busy) ∧ P (.bool true) (m2.mark y (.loop ps as body env .ready)))
        (asX fun x _ m2 => x ≠ .nrm ∧ m2.objs[y]? = some (.loop ps as body env .busy) ∧ P (.bool false) (m2.mark y (.loop ps as body env (.done x))))) fun _ _ => True) (asX fun _ _ _ => False)) fun _ _ => True) :
    Tells (Call T (yb + y) args m) P := by
  obtain ⟨x, e1, m1, h1, h2⟩ := evK_out h
  have hx : x = .nrm := by
    cases x with
    | nrm => rfl
    | ext i => exact h2.elim
    | ret => exact h2.elim
  subst hx
  obtain ⟨h3, h4⟩ := h2
  obtain ⟨x, e2, m2, h5, h6⟩ := evK_out h4
  rw [call_yield hT]
  unfold runYield
  rw [hy]
  simp only [hl, if_true, h1, h3, h5]
  cases x with
  | nrm =>
    obtain ⟨h7, h8⟩ := h6
    rw [h7]
    exact tells_some h8
  | ext i =>
    obtain ⟨_, h7, h8⟩ := h6
    rw [h7]
    exact tells_some h8
  | ret =>
    obtain ⟨_, h7, h8⟩ := h6
    rw [h7]
    exact tells_some h8

/-- A loop over an iterator: the iterator is called with the round; how the loop ended is read off it. -/
theorem Tells.range {T : Nat → Option IFn} {f : Nat} {fst caps : List AV} {ps : List Nat} {as body : C} {e : Env} {m : Mem} {kn : KN} {kx : KX} {P : AV → Mem → Prop} {l : Heap} (hs : Sep m l)
    (h : ∀ y m', Sep m' ((y, .loop ps as body e .ready) :: l) → Tells (Call T f (fst ++ [.yield y] ++ caps) m') fun _ m'' =>
      (∃ ps' as' body' e', m''.objs[y]? = some (.loop ps' as' body' e' .ready) ∧ Tells (kn e (m''.mark y .gone)) P) ∨
      (∃ ps' as' body' e' i, m''.objs[y]? = some (.loop ps' as' body' e' (.done (.ext i))) ∧ Tells (kx (.ext i) e (m''.mark y .gone)) P) ∨
      (∃ ps' as' body' e', m''.objs[y]? = some (.loop ps' as' body' e' (.done .ret)) ∧ Tells (kx .ret e (m''.mark y .gone)) P)) :
    Tells (rangeK (Call T) (.func f fst caps) ps as body e m kn kx) P := by
  obtain ⟨r, m'', h1, h2⟩ := (h m.objs.length (m.push (.loop ps as body e .ready)) (hs.push _)).out
  unfold rangeK
  simp only [h1]
  rcases h2 with ⟨ps', as', body', e', h3, h4⟩ | ⟨ps', as', body', e', i, h3, h4⟩ | ⟨ps', as', body', e', h3, h4⟩
  · rw [h3]; exact h4
  · rw [h3]; exact h4
  · rw [h3]; exact h4

/-- A round is asked for. -/
theorem Tells.callY {call : Nat → List AV → Mem → Rho} {m : Mem} {y : Nat} {vs args : List AV} {kp : Bool} {P : AV → Mem → Prop} (ha : (if kp then vs else vs.map AV.untag) = args) {Q : AV → Mem → Prop} (hc : Tells (call (yb + y) args m) Q) {k : KV} (hk : ∀ r m', Q r m' → Tells (k r m') P) : Tells (callK call (.yield y) kp vs m k) P := by
  obtain ⟨r, m', h1, h2⟩ := hc.out
  refine Tells.of_eq ?_ (hk r m' h2)
  simp only [callK, ha, h1, rK]

theorem mark_objs {M : Mem} {i : Nat} {o : AObj} : (M.mark i o).objs = M.objs.set i o := rfl
theorem Sep.mark {M : Mem} {l l' : Heap} (h : Sep M l) {p : Nat} {o o' : AObj} (hu : Upd l p o o' l') : Sep (M.mark p o') l' := (h.put hu).objs rfl
end Go.Am
