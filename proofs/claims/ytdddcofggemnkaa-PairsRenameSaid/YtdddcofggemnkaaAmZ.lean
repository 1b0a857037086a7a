/- An abstract machine for the part of Go that this program uses: walks through regions whose effects come in any order, by what holds of each set of operations that have been. -/
import Derived.Test.YtdddcofggemnkaaAmX
import Derived.Test.YtdddcofggemnkaaAmW2
namespace Go.Am
set_option linter.all false
open Go

theorem tree_inv {call : Nat → List AV → Mem → Option (AV × Mem)} {is : List (IOper × Nat × Nat)} {Q : Env → Mem → Prop} (I : (Nat → Bool) → Env → Mem → Prop)
    (hback : (is.zipIdx.all fun q => (List.range is.length).all fun j => !q.1.2.1.testBit j || decide (j < q.2)) = true)
    (step : ∀ (S : Nat → Bool) (L : Env) (M : Mem) (i : Nat) (p : IOper × Nat × Nat), I S L M → is[i]? = some p → S i = false → (∀ j, j < is.length → p.2.1.testBit j = true → S j = true) →
      ∃ v M', evOp call L M p.1.op = some (v, M') ∧ I (fun j => S j || decide (j = i)) (pushL p.1.dst v L) M')
    (fin : ∀ (S : Nat → Bool) (L : Env) (M : Mem), I S L M → (∀ j, j < is.length → S j = true) → Q L M) {L : Env} {M : Mem} (h : I (fun _ => false) L M) : Tree call is Q is.length 0 L M := by
  -- who may come up, as long as not all have been
  have all_of : ∀ done : Nat, readyX is done = [] → ∀ j, j < is.length → done.testBit j = true := by
    intro done hr j
    induction j using Nat.strongRecOn with
    | _ j ih =>
      intro hj
      cases hb : done.testBit j with
      | true => rfl
      | false =>
        exfalso
        have hm : j ∈ readyX is done := by
          unfold readyX
          rw [List.mem_filter]
          refine ⟨List.mem_range.2 hj, ?_⟩
          rw [hb, List.getElem?_eq_getElem hj]
          simp only [Bool.not_false, Bool.true_and, Option.map_some, Option.getD_some]
          unfold freeX
          rw [List.all_eq_true]
          intro k hk
          cases hkb : is[j].2.1.testBit k with
          | false => rfl
          | true =>
            have h1 := List.all_eq_true.1 hback (is[j], j) (by rw [List.mem_zipIdx_iff_getElem?]; exact List.getElem?_eq_getElem hj)
            have h2 := List.all_eq_true.1 h1 k hk
            simp only [hkb, Bool.not_true, Bool.false_or, decide_eq_true_eq] at h2
            simp only [Bool.not_true, Bool.false_or]
            exact ih k h2 (List.mem_range.1 hk)
        rw [hr] at hm
        cases hm
  have main : ∀ (fuel done : Nat) (S : Nat → Bool) (L : Env) (M : Mem), (∀ j, j < is.length → done.testBit j = S j) → ((List.range is.length).filter fun j => !S j).length ≤ fuel → I S L M → Tree call is Q fuel done L M := by
    intro fuel
    induction fuel with
    | zero =>
      intro done S L M hS hf hI
      have hall : ∀ j, j < is.length → S j = true := by
        intro j hj
        cases hb : S j with
        | true => rfl
        | false =>
          exfalso
          have h0 : ((List.range is.length).filter fun j => !S j) = [] := List.eq_nil_of_length_eq_zero (by omega)
          have : j ∈ (List.range is.length).filter fun j => !S j := List.mem_filter.2 ⟨List.mem_range.2 hj, by rw [hb]; rfl⟩
          rw [h0] at this
          cases this
      refine ⟨?_, fin S L M hI hall⟩
      apply List.eq_nil_iff_forall_not_mem.2
      intro j hj
      unfold readyX at hj
      rw [List.mem_filter, List.mem_range] at hj
      rw [hS j hj.1, hall j hj.1] at hj
      simp at hj
    | succ fuel ih =>
      intro done S L M hS hf hI
      refine ⟨fun hr => fin S L M hI fun j hj => by rw [← hS j hj]; exact all_of done hr j hj, fun i hi => ?_⟩
      unfold readyX at hi
      rw [List.mem_filter, List.mem_range] at hi
      obtain ⟨hil, hi2⟩ := hi
      rw [List.getElem?_eq_getElem hil] at hi2
      simp only [Option.map_some, Option.getD_some, Bool.and_eq_true, Bool.not_eq_true'] at hi2
      obtain ⟨h0, h1⟩ := hi2
      rw [hS i hil] at h0
      unfold freeX at h1
      rw [List.all_eq_true] at h1
      obtain ⟨v, M', g1, g2⟩ := step S L M i is[i] hI (List.getElem?_eq_getElem hil) h0 fun j hj hb => by
        have := h1 j (List.mem_range.2 hj)
        rw [hb, hS j hj] at this
        simpa using this
      refine ⟨is[i], v, M', List.getElem?_eq_getElem hil, g1, ih _ _ _ _ (fun j hj => ?_) ?_ g2⟩
      · rw [Nat.testBit_or, Nat.testBit_two_pow, hS j hj]
        congr 1
        rw [decide_eq_decide]
        exact eq_comm
      · have hsub : ((List.range is.length).filter fun j => !(S j || decide (j = i))).length < ((List.range is.length).filter fun j => !S j).length := by
          have e1 : ((List.range is.length).filter fun j => !(S j || decide (j = i))) = ((List.range is.length).filter fun j => !S j).filter fun j => !decide (j = i) := by
            rw [List.filter_filter]
            congr 1
            funext j
            cases S j <;> simp
          rw [e1]
          refine Nat.lt_of_le_of_ne (List.length_filter_le _ _) fun e => ?_
          have h2 := List.length_filter_eq_length_iff.1 e i (List.mem_filter.2 ⟨List.mem_range.2 hil, by rw [h0]; rfl⟩)
          simp at h2
        omega
  refine main is.length 0 (fun _ => false) L M (fun j _ => by simp) ?_ h
  exact Nat.le_trans (List.length_filter_le _ _) (by simp)

/-! What operations tell. -/

theorem eo_mov {call : Nat → List AV → Mem → Option (AV × Mem)} {L : Env} {M : Mem} {t : Nat} {v : AV} (h : L.get t = some v) : evOp call L M (.mov (.t t)) = some (v, M) := by
  simp only [evOp, Arg.ev, h]

theorem eo_load {call : Nat → List AV → Mem → Option (AV × Mem)} {L : Env} {M : Mem} {t p : Nat} {cs : List AV} (h : L.get t = some (.ptr p 0 0)) (ho : M.objs[p]? = some (.row 0 cs)) : evOp call L M (.load (some cs.length) (.t t)) = some (.agg cs, M) := by
  simp only [evOp, Arg.ev, h, Mem.load, ho, if_true, partOf]
  simp

theorem eo_new {call : Nat → List AV → Mem → Option (AV × Mem)} {L : Env} {M : Mem} {cs : List AV} : evOp call L M (.new cs) = some (.ptr M.objs.length 0 0, M.push (.row 0 cs)) := rfl

theorem eo_store {call : Nat → List AV → Mem → Option (AV × Mem)} {L : Env} {M : Mem} {t u p : Nat} {cs cs' : List AV} (h : L.get t = some (.ptr p 0 0)) (hx : L.get u = some (.agg cs')) (ho : M.objs[p]? = some (.row 0 cs)) (hl : cs'.length = cs.length) (hs : (AV.agg cs').solid = true) :
    evOp call L M (.store cs.length (.t t) (.t u)) = some (.tuple [], M.put p (.row 0 cs')) := by
  simp only [evOp, Arg.ev, h, hx, Mem.store, ho]
  rw [if_pos ⟨trivial, by simpa [AV.cells] using hl, by omega, hs⟩]
  simp only [setCells, AV.cells, List.take_zero, List.nil_append, Nat.zero_add, hl, List.drop_length, List.append_nil]

theorem eo_call1 {call : Nat → List AV → Mem → Option (AV × Mem)} {L : Env} {M : Mem} {f t : Nat} {v : AV} {P : AV → Mem → Prop} (h : L.get t = some v) (hc : Tells (call f [v.untag] M) P) : ∃ r M', evOp call L M (.call (.f f) [.t t] false) = some (r, M') ∧ P r M' := by
  obtain ⟨r, m, h1, h2⟩ := hc.out
  exact ⟨r, m, by simp only [evOp, Arg.ev, evArgs, h]; simpa using h1, h2⟩

theorem eo_call2 {call : Nat → List AV → Mem → Option (AV × Mem)} {L : Env} {M : Mem} {f t u : Nat} {v w : AV} {P : AV → Mem → Prop} (h : L.get t = some v) (h' : L.get u = some w) (hc : Tells (call f [v.untag, w.untag] M) P) : ∃ r M', evOp call L M (.call (.f f) [.t t, .t u] false) = some (r, M') ∧ P r M' := by
  obtain ⟨r, m, h1, h2⟩ := hc.out
  exact ⟨r, m, by simp only [evOp, Arg.ev, evArgs, h, h']; simpa using h1, h2⟩

theorem get_push {d t : Nat} {v : AV} {L : Env} : (pushL (some d) v L).get t = if d = t then some v else L.get t := by
  rw [pushL_get]; simp

/-! What is asked for, in place of an answer. -/

theorem tells_some {r : AV} {m : Mem} {P : AV → Mem → Prop} (h : P r m) : Tells (some (r, m)) P := by
  unfold Tells; exact ⟨r, m, rfl, h⟩

theorem tells_asN {kn : Env → Mem → Prop} {e : Env} {m : Mem} (h : kn e m) : Tells (asN kn e m) fun _ _ => True := by
  unfold asN; rw [if_pos h]; exact tells_some trivial
theorem tells_asX {kx : X → Env → Mem → Prop} {x : X} {e : Env} {m : Mem} (h : kx x e m) : Tells (asX kx x e m) fun _ _ => True := by
  unfold asX; rw [if_pos h]; exact tells_some trivial
theorem wpc_tells {call : Nat → List AV → Mem → Option (AV × Mem)} {n : Nat} {c : C} {env : Env} {M : Mem} {kn : Env → Mem → Prop} {kx : X → Env → Mem → Prop} {x : Rho} (hn : noX c = true) (he : evK call n c env M (asN kn) (asX kx) = x) (h : Tells x fun _ _ => True) : WPc call c env M kn kx := by
  obtain ⟨r, m, h1, _⟩ := h.out
  exact wpc_K hn (he.trans h1)

end Go.Am
