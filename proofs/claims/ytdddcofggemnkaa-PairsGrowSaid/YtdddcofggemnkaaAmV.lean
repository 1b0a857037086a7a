/- An abstract machine for the part of Go that this program uses: what loops over iterators tell. -/
import Derived.Test.YtdddcofggemnkaaAmX
namespace Go.Am
set_option linter.all false
open Go

theorem evK_out {T : Nat → Option IFn} {n : Nat} {c : C} {env : Env} {M : Mem} {kn : Env → Mem → Prop} {kx : X → Env → Mem → Prop} (h : Tells (evK (Call T) n c env M (asN kn) (asX kx)) fun _ _ => True) : ∃ x e m, Ev T c env M = some (x, e, m) ∧ outP kn kx x e m := by
  obtain ⟨r, m, h, _⟩ := h.out
  have h1 := evK_le (c := c) (env := env) (M := M) (fun e m => Rho.le_refl (asN kn e m)) (fun x e m => Rho.le_refl (asX kx x e m)) _ h
  unfold bindC at h1
  split at h1
  · cases h1
  · rename_i h2; exact ⟨_, _, _, evC_Ev h2, asN_some h1⟩
  · rename_i x e m hx h2
    refine ⟨x, e, m, evC_Ev h2, ?_⟩
    cases x with
    | nrm => exact (hx rfl).elim
    | ext i => exact asX_some h1
    | ret => exact asX_some h1

/-- One round: the loop's variables are laid, the body is run; how it ended is told. -/
theorem Tells.round {T : Nat → Option IFn} {y : Nat} (hT : T (yb + y) = none) {ps : List Nat} {as body : C} {env : Env} {args : List AV} {m : Mem} {n : Nat} {P : AV → Mem → Prop} (hy : m.objs[y]? = some (.loop ps as body env .ready)) (hl : args.length = ps.length)
    (h : Tells (evK (Call T) n as (ps.zip args ++ env) m (asN fun e1 m1 => m1.objs[y]? = some (.loop ps as body env .ready) ∧
      Tells (evK (Call T) n body e1 (m1.mark y (.loop ps as body env .busy)) (asN fun _ m2 => m2.objs[y]? = some (.loop ps as body env .busy) ∧ P (.bool true) (m2.mark y (.loop ps as body env .ready)))
        (asX fun x _ m2 => x ≠ .nrm ∧ m2.objs[y]? = some (.loop ps as body env .busy) ∧ P (.bool false) (m2.mark y (.loop ps as body env (.done x))))) fun _ _ => True) (asX fun _ _ _ => False)) fun _ _ => True) :
    Tells (Call T (yb + y) args m) P := by
  obtain ⟨x, e1, m1, h1, h2⟩ := evK_out h
  have hx : x = .nrm := by
    cases x with
    | nrm => rfl
    | ext i => exact h2.elim
    | ret => exact h2.elim
  subst hx
  obtain ⟨h3, h4⟩ := h2
  obtain ⟨x, e2, m2, h5, h6⟩ := evK_out h4
  rw [call_yield hT]
  unfold runYield
  rw [hy]
  simp only [hl, if_true, h1, h3, h5]
  cases x with
  | nrm =>
    obtain ⟨h7, h8⟩ := h6
    rw [h7]
    exact tells_some h8
  | ext i =>
    obtain ⟨_, h7, h8⟩ := h6
    rw [h7]
    exact tells_some h8
  | ret =>
    obtain ⟨_, h7, h8⟩ := h6
    rw [h7]
    exact tells_some h8

/-- A loop over an iterator: the iterator is called with the round; how the loop ended is read off it. -/
theorem Tells.range {T : Nat → Option IFn} {f : Nat} {fst caps : List AV} {ps : List Nat} {as body : C} {e : Env} {m : Mem} {kn : KN} {kx : KX} {P : AV → Mem → Prop} {l : Heap} (hs : Sep m l)
    (h : ∀ y m', Sep m' ((y, .loop ps as body e .ready) :: l) → Tells (Call T f (fst ++ [.yield y] ++ caps) m') fun _ m'' =>
      (∃ ps' as' body' e', m''.objs[y]? = some (.loop ps' as' body' e' .ready) ∧ Tells (kn e (m''.mark y .gone)) P) ∨
      (∃ ps' as' body' e' i, m''.objs[y]? = some (.loop ps' as' body' e' (.done (.ext i))) ∧ Tells (kx (.ext i) e (m''.mark y .gone)) P) ∨
      (∃ ps' as' body' e', m''.objs[y]? = some (.loop ps' as' body' e' (.done .ret)) ∧ Tells (kx .ret e (m''.mark y .gone)) P)) :
    Tells (rangeK (Call T) (.func f fst caps) ps as body e m kn kx) P := by
  obtain ⟨r, m'', h1, h2⟩ := (h m.objs.length (m.push (.loop ps as body e .ready)) (hs.push _)).out
  unfold rangeK
  simp only [h1]
  rcases h2 with ⟨ps', as', body', e', h3, h4⟩ | ⟨ps', as', body', e', i, h3, h4⟩ | ⟨ps', as', body', e', h3, h4⟩
  · rw [h3]; exact h4
  · rw [h3]; exact h4
  · rw [h3]; exact h4

/-- A round is asked for. -/
theorem Tells.callY {call : Nat → List AV → Mem → Rho} {m : Mem} {y : Nat} {vs args : List AV} {kp : Bool} {P : AV → Mem → Prop} (ha : (if kp then vs else vs.map AV.untag) = args) {Q : AV → Mem → Prop} (hc : Tells (call (yb + y) args m) Q) {k : KV} (hk : ∀ r m', Q r m' → Tells (k r m') P) : Tells (callK call (.yield y) kp vs m k) P := by
  obtain ⟨r, m', h1, h2⟩ := hc.out
  refine Tells.of_eq ?_ (hk r m' h2)
  simp only [callK, ha, h1, rK]

theorem mark_objs {M : Mem} {i : Nat} {o : AObj} : (M.mark i o).objs = M.objs.set i o := rfl
theorem Sep.mark {M : Mem} {l l' : Heap} (h : Sep M l) {p : Nat} {o o' : AObj} (hu : Upd l p o o' l') : Sep (M.mark p o') l' := (h.put hu).objs rfl
end Go.Am
namespace Go.Am
set_option linter.all false
open Go
variable {m : Mem} {l : Heap} {P : AV → Mem → Prop}

theorem untag_all {ys : List AV} (h : ∀ y ∈ ys, y.untag = y) : ys.map AV.untag = ys := by
  rw [List.map_congr_left h, List.map_id']
theorem size_all {n : Nat} {ys : List AV} (h : ∀ y ∈ ys, y.cells.length = n) : (ys.all fun y => y.cells.length == n) = true :=
  List.all_eq_true.2 fun y hy => by simp [h y hy]

theorem elems_lst {n k2 : Nat} {gy : Tag} {ys : List AV} (h : n = k2 ∨ ys = []) : m.elems n (.list gy k2 ys) = some ys := by simp only [Mem.elems]; rw [if_pos h]
/-- Some are appended to a slice that is one's own. -/
theorem Tells.appendON {g : Tag} {H : Heap} {n k' bytes : Nat} {b : AV} {xs ys : List AV} (ho : OwnT g H xs.length) (h : Sep m (H ++ l)) (hx : n = k' ∨ xs = []) (he : m.elems n b = some ys) (hb : (xs.length + ys.length) * bytes ≤ room ∧ xs.length + ys.length ≤ room) (hn : 0 < n)
    (hu : ∀ y ∈ ys, y.untag = y) (hc : ∀ y ∈ ys, y.cells.length = n) {k : KV} (hk : ∀ g' H' m', OwnT g' H' (xs.length + ys.length) → Sep m' (H' ++ l) → Tells (k (.list g' n (xs ++ ys)) m') P) : Tells (appendK n bytes 0 (.list g k' xs) b m k) P := by
  have e0 : appendK n bytes 0 (.list g k' xs) b m k = rK (aAppend m n bytes (.list g k' xs) ys 0) k := by simp only [appendK, he, untag_all hu]
  rw [e0]
  by_cases hnil : ys = []
  · subst hnil
    have e1 : aAppend m n bytes (.list g k' xs) [] 0 = some (.list g n xs, m) := by
      simp only [aAppend]
      rw [if_pos ⟨hx, by simpa using hb.1, by simpa using hb.2, by simp, hn⟩]
      rfl
    rw [e1]
    have := hk g H m (by simpa using ho) h
    rw [List.append_nil] at this
    exact this
  · rcases ho with ⟨rfl, rfl⟩ | ⟨t, rfl, rfl⟩
    · refine Tells.of_eq ?_ (hk _ _ _ .own (h.push (.tip (xs.length + ys.length))))
      simp only [aAppend]
      rw [if_pos ⟨hx, hb.1, hb.2, size_all hc, hn⟩, if_neg hnil]
      rfl
    · have hu : Upd ([(t, AObj.tip xs.length)] ++ l) t (.tip xs.length) (.tip (xs.length + ys.length)) ([(t, AObj.tip (xs.length + ys.length))] ++ l) := .z
      refine Tells.of_eq ?_ (hk _ _ _ .own (h.put hu))
      simp only [aAppend]
      rw [if_pos ⟨hx, hb.1, hb.2, size_all hc, hn⟩, if_neg hnil]
      simp only [h.get hu.has, if_true, rK]

/-- Some are appended to a row of one's own. -/
theorem Tells.appendRowN {v : AV} {H : Heap} {n bytes : Nat} {b : AV} {es ys : List AV} (ho : RowO v H n es) (hes : ∀ x ∈ es, x.cells.length = n) (h : Sep m (H ++ l)) (he : m.elems n b = some ys) (hb : (es.length + ys.length) * bytes ≤ room ∧ es.length + ys.length ≤ room) (hn : 0 < n ∧ n < 65536)
    (hu : ∀ y ∈ ys, y.untag = y) (hc : ∀ y ∈ ys, y.cells.length = n) {k : KV} (hk : ∀ v' H' m', RowO v' H' n (es ++ ys) → (H = [] → ys = [] → H' = []) → Sep m' (H' ++ l) → Tells (k v' m') P) : Tells (appendK n bytes 1 v b m k) P := by
  have e0 : appendK n bytes 1 v b m k = rK (aAppend m n bytes v ys 1) k := by simp only [appendK, he, untag_all hu]
  rw [e0]
  by_cases hnil : ys = []
  · subst hnil
    rcases ho with ⟨k', rfl, rfl, rfl⟩ | ⟨id, ver, hun, rfl, rfl⟩
    · have e1 : aAppend m n bytes (.list .full k' []) [] 1 = some (.list .full n [], m) := by
        simp only [aAppend]
        rw [if_pos ⟨.inr trivial, by simp, by simp, by simp, hn.1⟩]
        rfl
      rw [e1]
      exact hk _ [] m (.inl ⟨n, rfl, rfl, rfl⟩) (fun _ _ => rfl) h
    · have e1 : aAppend m n bytes (.ref id ver 0 es.length) [] 1 = some (.ref id ver 0 es.length, m) := by
        simp only [aAppend]
        rw [if_pos ⟨hun, trivial, by simpa using hb.1, by simpa using hb.2, by simp, hn.1⟩]
        rfl
      rw [e1]
      exact hk _ _ m (.inr ⟨id, ver, hun, by simp, by simp⟩) (fun e _ => by cases e) h
  · rcases ho with ⟨k', rfl, rfl, rfl⟩ | ⟨id, ver, hun, rfl, rfl⟩
    · have h1 : Sep (m.push (.row n (flat ys))) ([(m.objs.length, .row n (flat ys))] ++ l) := h.push (.row n (flat ys))
      refine Tells.of_eq ?_ (hk (.ref m.objs.length n 0 ys.length) _ _ (.inr ⟨m.objs.length, n, Nat.mod_eq_of_lt hn.2, by simp, by simp⟩) (fun _ e => absurd e hnil) h1)
      simp only [aAppend]
      simp only [List.length_nil, Nat.zero_add] at hb
      rw [if_pos ⟨.inr trivial, by simpa using hb.1, by simpa using hb.2, size_all hc, hn.1⟩, if_neg hnil]
      simp only [List.length_nil, Nat.zero_add, List.nil_append, if_true]
      rw [if_pos hn.2]
      rfl
    · have hu : Upd ([(id, AObj.row ver (flat es))] ++ l) id (.row ver (flat es)) (.row (ver + 65536) (flat (es ++ ys))) ([(id, AObj.row (ver + 65536) (flat (es ++ ys)))] ++ l) := .z
      refine Tells.of_eq ?_ (hk (.ref id (ver + 65536) 0 (es.length + ys.length)) _ _ (.inr ⟨id, ver + 65536, by rw [← hun]; simp [unitOf], by simp, rfl⟩) (fun e _ => by cases e) (h.put hu))
      simp only [aAppend]
      rw [if_pos ⟨hun, by trivial, by simpa using hb.1, by simpa using hb.2, size_all hc, hn.1⟩, if_neg hnil]
      have e1 : (flat es).take (es.length * n) = flat es := by rw [← flatW_len hes]; exact List.take_length
      simp only [h.get hu.has, flatW_len hes, Nat.le_refl, e1, and_self, if_true, rK, flatW_append]
end Go.Am
