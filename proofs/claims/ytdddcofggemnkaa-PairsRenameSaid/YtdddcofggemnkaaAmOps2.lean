/- An abstract machine for the part of Go that this program uses: the runs of loads and stores. -/
import Derived.Test.YtdddcofggemnkaaAmOps1
import Derived.Laws.Cells
namespace Go.Am
set_option linter.all false
open Go Go.RowKit

section
variable {P : Program} {w0 : Base} {w : World} {s : Sim} {M : Mem}

theorem okPart_cases {t : TypeId} {k : Option Nat} (h : okPart P t k = true) : (k = none ∧ aggOf P t = some false ∧ szOf P t = some 1) ∨ (∃ n, k = some n ∧ aggOf P t = some true ∧ szOf P t = some n ∧ 0 < n) := by
  unfold okPart at h
  split at h
  · rename_i n m h1 h2
    simp only [Bool.and_eq_true, beq_iff_eq, decide_eq_true_eq] at h
    obtain ⟨rfl, h3⟩ := h
    exact .inr ⟨n, rfl, h1, h2, h3⟩
  · rename_i n h1 h2
    simp only [beq_iff_eq] at h
    subst h
    exact .inl ⟨rfl, h1, h2⟩
  · cases h

theorem cellsAt_run (b o n : Nat) (vs : Nat → Value) (h : ∀ j, j < n → w.cell? ⟨b, o + j, none⟩ = some (vs j)) : (loadCells ⟨b, o, none⟩ n).run P w = .ok (((List.range n).map vs).toArray) w := by
  have := run_loadCells_list (P := P) (w := w) ⟨b, o, none⟩ ((List.range n).map vs) (fun j v hj => by
    simp only [List.getElem?_map, Option.map_eq_some_iff] at hj
    obtain ⟨i, hi, rfl⟩ := hj
    have h1 : i = j := by
      rw [List.getElem?_range] at hi
      · simpa using hi.symm
      · by_cases hlt : j < n
        · exact hlt
        · rw [List.getElem?_eq_none (by simp; omega)] at hi; cases hi
    subst h1
    have hlt : i < n := by
      by_cases hlt : i < n
      · exact hlt
      · rw [List.getElem?_eq_none (by simp; omega)] at hi; cases hi
    rw [Addr.add_lit]
    exact h i hlt)
  simpa using this

theorem loadVar_one {t : TypeId} {b o : Nat} {v : Value} (hg : aggOf P t = some false) (h : w.cell? ⟨b, o, none⟩ = some v) : (loadVar t ⟨b, o, none⟩).run P w = .ok v w := by
  simp [loadVar, run_isAgg hg, h]

theorem loadVar_agg {t : TypeId} {b o n : Nat} {vs : Nat → Value} (hg : aggOf P t = some true) (hn : szOf P t = some n) (h : ∀ j, j < n → w.cell? ⟨b, o + j, none⟩ = some (vs j)) :
    (loadVar t ⟨b, o, none⟩).run P w = .ok (.agg ((List.range n).map vs).toArray) w := by
  simp only [loadVar, Sem.run_bind, run_isAgg hg, Result.andThen_ok, if_true, run_sizeOf hn, cellsAt_run b o n vs h, Sem.run_pure]

theorem agg_of_cells {n : Nat} {xs : List AV} {vs : Nat → Value} (hl : xs.length = n) (h : ∀ (j : Nat) (c : AV), xs[j]? = some c → VR s c (vs j) ∧ one (vs j) = true) : VR s (.agg xs) (.agg ((List.range n).map vs).toArray) := by
  subst hl
  refine .agg xs _ (by simp) (fun v hv => ?_) fun i x v hx hv => ?_
  · simp only [List.mem_map, List.mem_range] at hv
    obtain ⟨j, hj, rfl⟩ := hv
    exact (h j xs[j] (List.getElem?_eq_getElem hj)).2
  · simp only [List.getElem?_map, Option.map_eq_some_iff] at hv
    obtain ⟨j, hj, rfl⟩ := hv
    have hlt : i < xs.length := (List.getElem?_eq_some_iff.1 hx).1
    rw [List.getElem?_range hlt] at hj
    simp only [Option.some.injEq] at hj
    subst hj
    exact (h i x hx).1

theorem load_run (hm : MR w0 s M w) {t : TypeId} {k : Option Nat} {p v : AV} {pv : Value} (hk : okPart P t k = true) (hp : VR s p pv) (h : M.load k p = some v) :
    ∃ u, (Instr.loadAt t pv).run P w = .ok u w ∧ VR s v u := by
  unfold Mem.load at h
  split at h
  · rename_i x
    cases hp with
    | cptr _ b o vs h0 hf hv =>
      rcases okPart_cases hk with ⟨rfl, ha, hs⟩ | ⟨n, rfl, ha, hs, hn⟩
      · have key : ∀ y, x.cells = [y] → ∃ u, (Instr.loadAt t (.pointer (some ⟨b, o, none⟩))).run P w = .ok u w ∧ VR s y u := by
          intro y hy
          have h1 := hf 0 y (by simp [hy])
          have h2 := hv 0 y (by simp [hy])
          exact ⟨vs 0, by simp only [Instr.loadAt, Instr.sureAddr, Sem.run_bind, Sem.run_pure, Result.andThen_ok]; exact loadVar_one ha (hm.fz _ _ _ (by simpa using h1)).1, h2⟩
        simp only at h
        split at h
        · rename_i y
          simp only [Option.some.injEq] at h; subst h
          exact key _ rfl
        · cases h
        · rename_i h1 h2
          simp only [Option.some.injEq] at h; subst h
          refine key x ?_
          cases x <;> first | rfl | (exact absurd rfl (h2 _))
      · simp only at h
        split at h
        · rename_i hl
          simp only [Option.some.injEq] at h; subst h
          refine ⟨.agg ((List.range n).map vs).toArray, ?_, agg_of_cells hl fun j c hc => ⟨hv j c hc, (hm.fz _ _ _ (hf j c hc)).2⟩⟩
          simp only [Instr.loadAt, Instr.sureAddr, Sem.run_bind, Sem.run_pure, Result.andThen_ok]
          refine loadVar_agg ha hs fun j hj => ?_
          exact (hm.fz _ _ _ (hf j x.cells[j] (List.getElem?_eq_getElem (by omega)))).1
        · cases h
  · rename_i id ver off
    split at h
    · rename_i ver' cs hid
      split at h
      · rename_i hver
        subst hver
        obtain ⟨b, c, e, h1, h2, h3, h4, h5⟩ := hm.obj id _ hid
        cases hp with
        | ptr _ _ _ b2 ver2 b' n hl hv hb =>
          rw [h1] at hl
          cases hl
          have := hb rfl
          simp only [Option.some.injEq] at this
          subst this
          have hcell : ∀ j, w.cell? ⟨b, j, none⟩ = c[j]? := fun j => cell_of_row w b j c e (0, 0) h2
          rcases okPart_cases hk with ⟨rfl, ha, hs⟩ | ⟨n, rfl, ha, hs, hn⟩
          · simp only [partOf] at h
            have hlt : off < c.size := by have := (List.getElem?_eq_some_iff.1 h).1; omega
            refine ⟨c[off], ?_, (h4 off v c[off] h (Array.getElem?_eq_getElem hlt)).1⟩
            simp only [Instr.loadAt, Instr.sureAddr, Sem.run_bind, Sem.run_pure, Result.andThen_ok]
            exact loadVar_one ha (by rw [hcell]; exact Array.getElem?_eq_getElem hlt)
          · simp only [partOf] at h
            split at h
            · rename_i hle
              simp only [Option.some.injEq] at h; subst h
              refine ⟨.agg ((List.range n).map fun j => c.getD (off + j) undef).toArray, ?_, agg_of_cells (by simp; omega) fun j x hx => ?_⟩
              · simp only [Instr.loadAt, Instr.sureAddr, Sem.run_bind, Sem.run_pure, Result.andThen_ok]
                refine loadVar_agg ha hs fun j hj => ?_
                rw [hcell, Array.getElem?_eq_getElem (by omega)]
                simp [Array.getD, show off + j < c.size by omega]
              · rw [List.getElem?_take] at hx
                split at hx
                · rename_i hj
                  rw [List.getElem?_drop] at hx
                  have hlt : off + j < c.size := by omega
                  have := h4 (off + j) x c[off + j] hx (Array.getElem?_eq_getElem hlt)
                  simpa [Array.getD, hlt] using this
                · cases hx
            · cases h
      · cases h
    · cases h
  · cases h

theorem setCells_get {cs xs : List AV} {off : Nat} (hle : off + xs.length ≤ cs.length) (i : Nat) :
    (setCells cs off xs)[i]? = if off ≤ i ∧ i < off + xs.length then xs[i - off]? else cs[i]? := by
  unfold setCells
  rw [List.append_assoc, List.getElem?_append]
  split
  · rename_i h
    simp only [List.length_take] at h
    rw [if_neg (by omega), List.getElem?_take, if_pos (by omega)]
  · rename_i h
    simp only [List.length_take] at h
    rw [List.getElem?_append]
    have hmin : min off cs.length = off := by omega
    split
    · rename_i h2
      simp only [List.length_take, hmin] at h2 ⊢
      rw [if_pos (by omega)]
    · rename_i h2
      simp only [List.length_take, hmin] at h2 ⊢
      rw [if_neg (by omega), List.getElem?_drop]
      congr 1
      omega

theorem length_setCells {cs xs : List AV} {off : Nat} (hle : off + xs.length ≤ cs.length) : (setCells cs off xs).length = cs.length := by
  simp [setCells]; omega

theorem one_iff (v : Value) : v.oneCell' = one v := by cases v <;> rfl

theorem spliced_get {α : Type} {l xs : List α} {off : Nat} (hle : off + xs.length ≤ l.length) (i : Nat) :
    (l.take off ++ xs ++ l.drop (off + xs.length))[i]? = if off ≤ i ∧ i < off + xs.length then xs[i - off]? else l[i]? := by
  rw [List.append_assoc, List.getElem?_append]
  split
  · rename_i h
    simp only [List.length_take] at h
    rw [if_neg (by omega), List.getElem?_take, if_pos (by omega)]
  · rename_i h
    simp only [List.length_take] at h
    rw [List.getElem?_append]
    have hmin : min off l.length = off := by omega
    split
    · rename_i h2
      simp only [List.length_take, hmin] at h2 ⊢
      rw [if_pos (by omega)]
    · rename_i h2
      simp only [List.length_take, hmin] at h2 ⊢
      rw [if_neg (by omega), List.getElem?_drop]
      congr 1
      omega

end
end Go.Am
