/- An abstract machine for the part of Go that this program uses: the runs of append. -/
import Derived.Test.YtdddcofggemnkaaAmOps6
namespace Go.Am
set_option linter.all false
open Go Go.RowKit

/-- Elements and their cells, one behind the other. -/
structure LC (s : Sim) (k : Nat) (xs : List AV) (cs : List Value) : Prop where
  len : cs.length = xs.length * k
  size : ∀ (i : Nat) (x : AV), xs[i]? = some x → x.cells.length = k
  get : ∀ (i : Nat) (x : AV) (j : Nat) (c : AV), xs[i]? = some x → x.cells[j]? = some c → ∃ u, cs[i * k + j]? = some u ∧ VR s c u
  one : ∀ u ∈ cs, Am.one u = true

section
variable {P : Program} {w0 : Base} {w : World} {s : Sim} {M : Mem}

theorem LC.mono {s' : Sim} (h : s.le s') {k : Nat} {xs : List AV} {cs : List Value} (hl : LC s k xs cs) : LC s' k xs cs :=
  ⟨hl.len, hl.size, fun i x j c hx hc => by obtain ⟨u, h1, h2⟩ := hl.get i x j c hx hc; exact ⟨u, h1, h2.mono h⟩, hl.one⟩

theorem LC.append {k : Nat} {xs ys : List AV} {cs ds : List Value} (h : LC s k xs cs) (h' : LC s k ys ds) : LC s k (xs ++ ys) (cs ++ ds) := by
  refine ⟨by rw [List.length_append, List.length_append, h.len, h'.len, Nat.add_mul], fun i x hx => ?_, fun i x j c hx hc => ?_, fun u hu => ?_⟩
  · rw [List.getElem?_append] at hx
    split at hx
    · exact h.size i x hx
    · exact h'.size _ x hx
  · rw [List.getElem?_append] at hx
    split at hx
    · rename_i hi
      obtain ⟨u, h1, h2⟩ := h.get i x j c hx hc
      exact ⟨u, by rw [List.getElem?_append_left (List.getElem?_eq_some_iff.1 h1).1]; exact h1, h2⟩
    · rename_i hi
      obtain ⟨u, h1, h2⟩ := h'.get _ x j c hx hc
      refine ⟨u, ?_, h2⟩
      have e : i * k + j = cs.length + ((i - xs.length) * k + j) := by
        rw [h.len]
        have : i = xs.length + (i - xs.length) := by omega
        have h3 : i * k = xs.length * k + (i - xs.length) * k := by
          conv => lhs; rw [this]
          rw [Nat.add_mul]
        omega
      rw [e, List.getElem?_append_right (by omega)]
      rw [show cs.length + ((i - xs.length) * k + j) - cs.length = (i - xs.length) * k + j by omega]
      exact h1
  · rcases List.mem_append.1 hu with hu | hu
    · exact h.one u hu
    · exact h'.one u hu

theorem LC.untag {k : Nat} {xs : List AV} {cs : List Value} (h : LC s k xs cs) : LC s k (xs.map AV.untag) cs := by
  refine ⟨by simpa using h.len, fun i x hx => ?_, fun i x j c hx hc => ?_, h.one⟩
  · simp only [List.getElem?_map, Option.map_eq_some_iff] at hx
    obtain ⟨y, hy, rfl⟩ := hx
    rw [cells_untag]; exact h.size i y hy
  · simp only [List.getElem?_map, Option.map_eq_some_iff] at hx
    obtain ⟨y, hy, rfl⟩ := hx
    cases y with
    | agg zs =>
      simp only [AV.untag, AV.cells, List.getElem?_map, Option.map_eq_some_iff] at hc
      obtain ⟨z, hz, rfl⟩ := hc
      obtain ⟨u, h1, h2⟩ := h.get i _ j z hy hz
      exact ⟨u, h1, h2.untag1⟩
    | _ =>
      cases j with
      | zero =>
        simp only [AV.untag, AV.cells, List.getElem?_cons_zero, Option.some.injEq] at hc
        obtain ⟨u, h1, h2⟩ := h.get i _ 0 _ hy rfl
        subst hc
        exact ⟨u, h1, h2.untag⟩
      | succ j => simp [AV.untag, AV.cells] at hc

theorem VR.of_LC {k : Nat} {xs : List AV} {cs : List Value} (h : LC s k xs cs) (hk : 0 < k) {g : Tag} {b o cap : Nat} (hf : ∀ i u, cs[i]? = some u → s.fz b (o + i) = some u) (hcap : xs.length ≤ cap)
    (ho : ∀ t, g = .own t → o = 0) (ht : TagOk s g k xs.length (some b) cap) : VR s (.list g k xs) (.slice (some ⟨b, o, none⟩) xs.length cap) := by
  refine .list g k xs b o cap (fun i j => cs.getD (i * k + j) undef) hcap h.size (fun i x j c hx hc => ?_) (fun i x j c hx hc => ?_) ho ht
  · obtain ⟨u, h1, h2⟩ := h.get i x j c hx hc
    rw [Nat.add_assoc, hf _ u h1]
    simp [List.getD, h1]
  · obtain ⟨u, h1, h2⟩ := h.get i x j c hx hc
    simpa [List.getD, h1] using h2

/-- What a slice holds. -/
theorem elems_run (hm : MR w0 s M w) {k : Nat} {x : AV} {xv : Value} {xs : List AV} (hk : 0 < k) (hx : VR s x xv) (h : M.elems k x = some xs) :
    ((xv = .slice none 0 0 ∨ ∃ a, xv = .slice (some a) 0 0) ∧ xs = []) ∨ ∃ b o cap cs, xv = .slice (some ⟨b, o, none⟩) xs.length cap ∧ xs.length ≤ cap ∧ LC s k xs cs ∧ ∀ i u, cs[i]? = some u → w.cell? ⟨b, o + i, none⟩ = some u := by
  unfold Mem.elems at h
  split at h
  · rename_i g k' ys
    split at h
    · rename_i hc
      simp only [Option.some.injEq] at h; subst h
      cases hx with
      | nil => exact .inl ⟨.inl rfl, rfl⟩
      | void _ a => exact .inl ⟨.inr ⟨a, rfl⟩, rfl⟩
      | list _ _ _ b o cap vs hcap hkk hf hv hown ht =>
        right
        have hkk' : ∀ (i : Nat) (x : AV), ys[i]? = some x → x.cells.length = k := fun i x hx => by
          rcases hc with rfl | rfl
          · exact hkk i x hx
          · simp at hx
        have hidx : ∀ q, q < ys.length * k → q / k < ys.length ∧ q % k < k := fun q hq => ⟨Nat.div_lt_of_lt_mul (by rwa [Nat.mul_comm] at hq), Nat.mod_lt _ hk⟩
        have hcell : ∀ q, q < ys.length * k → s.fz b (o + q) = some (vs (q / k) (q % k)) := fun q hq => by
          obtain ⟨h1, h2⟩ := hidx q hq
          have hl := hkk' _ _ (List.getElem?_eq_getElem h1)
          have := hf (q / k) _ (q % k) _ (List.getElem?_eq_getElem h1) (List.getElem?_eq_getElem (by rw [hl]; exact h2))
          rcases hc with rfl | rfl
          · rwa [Nat.add_assoc, Nat.mul_comm, Nat.div_add_mod] at this
          · simp at h1
        refine ⟨b, o, cap, (List.range (ys.length * k)).map fun q => vs (q / k) (q % k), rfl, hcap, ⟨by simp, hkk', fun i x j c hx hc' => ?_, fun u hu => ?_⟩, fun i u hu => ?_⟩
        · have hi : i < ys.length := (List.getElem?_eq_some_iff.1 hx).1
          have hj : j < k := by rw [← hkk' i x hx]; exact (List.getElem?_eq_some_iff.1 hc').1
          have hlt : i * k + j < ys.length * k := by
            have : (i + 1) * k ≤ ys.length * k := Nat.mul_le_mul_right _ hi
            rw [Nat.add_mul, Nat.one_mul] at this
            omega
          refine ⟨vs i j, ?_, hv i x j c hx hc'⟩
          rw [List.getElem?_map, List.getElem?_range hlt, Option.map_some]
          have e1 : (i * k + j) / k = i := by
            rw [Nat.mul_comm, Nat.mul_add_div hk, Nat.div_eq_of_lt hj, Nat.add_zero]
          have e2 : (i * k + j) % k = j := by
            rw [Nat.mul_comm, Nat.mul_add_mod, Nat.mod_eq_of_lt hj]
          rw [e1, e2]
        · simp only [List.mem_map, List.mem_range] at hu
          obtain ⟨q, hq, rfl⟩ := hu
          exact (hm.fz _ _ _ (hcell q hq)).2
        · simp only [List.getElem?_map, Option.map_eq_some_iff] at hu
          obtain ⟨q, hq, rfl⟩ := hu
          have hlt : i < ys.length * k := by
            by_cases hlt : i < ys.length * k
            · exact hlt
            · rw [List.getElem?_eq_none (by simp; omega)] at hq; cases hq
          rw [List.getElem?_range hlt] at hq
          simp only [Option.some.injEq] at hq
          subst hq
          exact (hm.fz _ _ _ (hcell i hlt)).1
    · cases h
  · rename_i id ver off len
    split at h
    · rename_i ver' cs hid
      split at h
      · rename_i hc
        obtain ⟨rfl, hle⟩ := hc
        obtain ⟨b, c, e, h1, h2, h3, h4, h5⟩ := hm.obj id _ hid
        cases hx with
        | ref _ _ _ _ b2 cap ver2 b' n hl hv hb hcap hz =>
          rw [h1] at hl
          cases hl
          have := hb rfl
          simp only [Option.some.injEq] at this
          subst this
          simp only [Option.some.injEq] at h
          subst h
          right
          have hrow : ∀ q, off + q < cs.length → ∃ x v, cs[off + q]? = some x ∧ c[off + q]? = some v ∧ VR s x v ∧ Am.one v = true := fun q hq => by
            have hq2 : off + q < c.size := by omega
            obtain ⟨h6, h7⟩ := h4 (off + q) cs[off + q] c[off + q] (List.getElem?_eq_getElem hq) (Array.getElem?_eq_getElem hq2)
            exact ⟨_, _, List.getElem?_eq_getElem hq, Array.getElem?_eq_getElem hq2, h6, h7⟩
          have helem : ∀ (i : Nat) (x : AV), ((List.range len).map fun i => if k = 1 then (cs[off + i]?).getD (.tuple []) else .agg ((cs.drop (off + i * k)).take k))[i]? = some x →
              i < len ∧ x.cells.length = k ∧ ∀ (j : Nat) (y : AV), x.cells[j]? = some y → j < k ∧ cs[off + (i * k + j)]? = some y := by
            intro i x hx
            simp only [List.getElem?_map, Option.map_eq_some_iff] at hx
            obtain ⟨q, hq, rfl⟩ := hx
            have hi : i < len := by
              by_cases hi : i < len
              · exact hi
              · rw [List.getElem?_eq_none (by simp; omega)] at hq; cases hq
            rw [List.getElem?_range hi] at hq
            simp only [Option.some.injEq] at hq
            subst hq
            have hb2 : i * k + k ≤ len * k := by
              have : (i + 1) * k ≤ len * k := Nat.mul_le_mul_right _ hi
              rwa [Nat.add_mul, Nat.one_mul] at this
            refine ⟨hi, ?_⟩
            by_cases hk1 : k = 1
            · subst hk1
              rw [if_pos rfl]
              obtain ⟨x, v, g1, g2, g3, g4⟩ := hrow i (by omega)
              rw [g1, Option.getD_some, g3.one_cells g4]
              refine ⟨rfl, fun j y hy => ?_⟩
              cases j with
              | zero =>
                simp only [List.getElem?_cons_zero, Option.some.injEq] at hy
                subst hy
                exact ⟨by omega, by simpa using g1⟩
              | succ j => simp at hy
            · rw [if_neg hk1]
              refine ⟨by simp only [AV.cells, List.length_take, List.length_drop]; omega, fun j y hy => ?_⟩
              simp only [AV.cells, List.getElem?_take] at hy
              split at hy
              · rename_i hj
                rw [List.getElem?_drop] at hy
                exact ⟨hj, by rw [← Nat.add_assoc]; exact hy⟩
              · cases hy
          refine ⟨b, off, cap, (List.range (len * k)).map fun q => c.getD (off + q) undef, by simp, by simpa using hcap, ⟨by simp, fun i x hx => (helem i x hx).2.1, fun i x j y hx hy => ?_, fun u hu => ?_⟩, fun i u hu => ?_⟩
          · obtain ⟨hi, _, hh⟩ := helem i x hx
            obtain ⟨hj, hy'⟩ := hh j y hy
            have hb2 : i * k + k ≤ len * k := by
              have : (i + 1) * k ≤ len * k := Nat.mul_le_mul_right _ hi
              rwa [Nat.add_mul, Nat.one_mul] at this
            refine ⟨c.getD (off + (i * k + j)) undef, ?_, ?_⟩
            · rw [List.getElem?_map, List.getElem?_range (by omega), Option.map_some]
            · have hq2 : off + (i * k + j) < c.size := by omega
              have := (h4 _ y c[off + (i * k + j)] hy' (Array.getElem?_eq_getElem hq2)).1
              simpa [Array.getD, hq2] using this
          · simp only [List.mem_map, List.mem_range] at hu
            obtain ⟨q, hq, rfl⟩ := hu
            obtain ⟨x, v, g1, g2, g3, g4⟩ := hrow q (by omega)
            have hq2 : off + q < c.size := by omega
            rw [Array.getElem?_eq_getElem hq2] at g2
            simp only [Option.some.injEq] at g2
            simpa [Array.getD, hq2, g2] using g4
          · simp only [List.getElem?_map, Option.map_eq_some_iff] at hu
            obtain ⟨q, hq, rfl⟩ := hu
            have hlt : i < len * k := by
              by_cases hlt : i < len * k
              · exact hlt
              · rw [List.getElem?_eq_none (by simp; omega)] at hq; cases hq
            rw [List.getElem?_range hlt] at hq
            simp only [Option.some.injEq] at hq
            subst hq
            rw [cell_of_row w b _ c e (0, 0) h2]
            have hq2 : off + i < c.size := by omega
            simp [Array.getD, hq2]
      · cases h
    · cases h
  · cases h

/-- What a slice that grows holds. -/
theorem elems_own (hm : MR w0 s M w) {k : Nat} {g : Tag} {xv : Value} {xs : List AV} (hk : 0 < k) (hg : g ≠ .shared) (hx : VR s (.list g k xs) xv) :
    (xv = .slice none 0 0 ∧ xs = []) ∨ ∃ b o cap cs, xv = .slice (some ⟨b, o, none⟩) xs.length cap ∧ xs.length ≤ cap ∧ LC s k xs cs ∧ ∀ i u, cs[i]? = some u → w.cell? ⟨b, o + i, none⟩ = some u := by
  rcases elems_run hm hk hx (k := k) (xs := xs) (by simp [Mem.elems]) with ⟨h | ⟨a, h⟩, h'⟩ | h
  · exact .inl ⟨h, h'⟩
  · subst h'
    cases hx with
    | nil => cases h
    | void => exact absurd rfl hg
    | list _ _ _ b o cap vs hcap hkk hf hv hown ht => exact .inr ⟨b, o, cap, [], rfl, hcap, ⟨by simp, by simp, by simp, by simp⟩, by simp⟩
  · exact .inr h
end
end Go.Am
