/- An abstract machine for the part of Go that this program uses: the runs of append. -/
import Derived.Test.YtjkpoaijmbapiaaGreatDoorAmOps1
import Derived.Laws.StructEq
namespace Go.Am
set_option linter.all false
open Go Go.RowKit

/-- Elements and their cells, one behind the other. -/
structure LC (s : Sim) (k : Nat) (xs : List AV) (cs : List Value) : Prop where
  len : cs.length = xs.length * k
  size : ∀ (i : Nat) (x : AV), xs[i]? = some x → x.cells.length = k
  get : ∀ (i : Nat) (x : AV) (j : Nat) (c : AV), xs[i]? = some x → x.cells[j]? = some c → ∃ u, cs[i * k + j]? = some u ∧ VR s c u
  one : ∀ u ∈ cs, Am.one u = true

section
variable {P : Program} {w0 : Base} {w : World} {s : Sim} {M : Mem}

theorem LC.mono {s' : Sim} (h : s.le s') {k : Nat} {xs : List AV} {cs : List Value} (hl : LC s k xs cs) : LC s' k xs cs :=
  ⟨hl.len, hl.size, fun i x j c hx hc => by obtain ⟨u, h1, h2⟩ := hl.get i x j c hx hc; exact ⟨u, h1, h2.mono h⟩, hl.one⟩

theorem LC.append {k : Nat} {xs ys : List AV} {cs ds : List Value} (h : LC s k xs cs) (h' : LC s k ys ds) : LC s k (xs ++ ys) (cs ++ ds) := by
  refine ⟨by rw [List.length_append, List.length_append, h.len, h'.len, Nat.add_mul], fun i x hx => ?_, fun i x j c hx hc => ?_, fun u hu => ?_⟩
  · rw [List.getElem?_append] at hx
    split at hx
    · exact h.size i x hx
    · exact h'.size _ x hx
  · rw [List.getElem?_append] at hx
    split at hx
    · rename_i hi
      obtain ⟨u, h1, h2⟩ := h.get i x j c hx hc
      exact ⟨u, by rw [List.getElem?_append_left (List.getElem?_eq_some_iff.1 h1).1]; exact h1, h2⟩
    · rename_i hi
      obtain ⟨u, h1, h2⟩ := h'.get _ x j c hx hc
      refine ⟨u, ?_, h2⟩
      have e : i * k + j = cs.length + ((i - xs.length) * k + j) := by
        rw [h.len]
        have : i = xs.length + (i - xs.length) := by omega
        have h3 : i * k = xs.length * k + (i - xs.length) * k := by
          conv => lhs; rw [this]
          rw [Nat.add_mul]
        omega
      rw [e, List.getElem?_append_right (by omega)]
      rw [show cs.length + ((i - xs.length) * k + j) - cs.length = (i - xs.length) * k + j by omega]
      exact h1
  · rcases List.mem_append.1 hu with hu | hu
    · exact h.one u hu
    · exact h'.one u hu

theorem LC.untag {k : Nat} {xs : List AV} {cs : List Value} (h : LC s k xs cs) : LC s k (xs.map AV.untag) cs := by
  refine ⟨by simpa using h.len, fun i x hx => ?_, fun i x j c hx hc => ?_, h.one⟩
  · simp only [List.getElem?_map, Option.map_eq_some_iff] at hx
    obtain ⟨y, hy, rfl⟩ := hx
    rw [cells_untag]; exact h.size i y hy
  · simp only [List.getElem?_map, Option.map_eq_some_iff] at hx
    obtain ⟨y, hy, rfl⟩ := hx
    cases y with
    | agg zs =>
      simp only [AV.untag, AV.cells, List.getElem?_map, Option.map_eq_some_iff] at hc
      obtain ⟨z, hz, rfl⟩ := hc
      obtain ⟨u, h1, h2⟩ := h.get i _ j z hy hz
      exact ⟨u, h1, h2.untag1⟩
    | _ =>
      cases j with
      | zero =>
        simp only [AV.untag, AV.cells, List.getElem?_cons_zero, Option.some.injEq] at hc
        obtain ⟨u, h1, h2⟩ := h.get i _ 0 _ hy rfl
        subst hc
        exact ⟨u, h1, h2.untag⟩
      | succ j => simp [AV.untag, AV.cells] at hc

theorem VR.of_LC {k : Nat} {xs : List AV} {cs : List Value} (h : LC s k xs cs) (hk : 0 < k) {g : Tag} {b o cap : Nat} (hf : ∀ i u, cs[i]? = some u → s.fz b (o + i) = some u) (hcap : xs.length ≤ cap)
    (ho : ∀ t, g = .own t → o = 0) (ht : TagOk s g k xs.length (some b) cap) : VR s (.list g k xs) (.slice (some ⟨b, o, none⟩) xs.length cap) := by
  refine .list g k xs b o cap (fun i j => cs.getD (i * k + j) undef) hcap h.size (fun i x j c hx hc => ?_) (fun i x j c hx hc => ?_) ho ht
  · obtain ⟨u, h1, h2⟩ := h.get i x j c hx hc
    rw [Nat.add_assoc, hf _ u h1]
    simp [List.getD, h1]
  · obtain ⟨u, h1, h2⟩ := h.get i x j c hx hc
    simpa [List.getD, h1] using h2

/-- What a slice holds. -/
theorem elems_run (hm : MR w0 s M w) {k : Nat} {x : AV} {xv : Value} {xs : List AV} (hk : 0 < k) (hx : VR s x xv) (h : M.elems k x = some xs) :
    ((xv = .slice none 0 0 ∨ ∃ a, xv = .slice (some a) 0 0) ∧ xs = []) ∨ ∃ b o cap cs, xv = .slice (some ⟨b, o, none⟩) xs.length cap ∧ xs.length ≤ cap ∧ LC s k xs cs ∧ ∀ i u, cs[i]? = some u → w.cell? ⟨b, o + i, none⟩ = some u := by
  unfold Mem.elems at h
  split at h
  · rename_i g k' ys
    split at h
    · rename_i hc
      simp only [Option.some.injEq] at h; subst h
      cases hx with
      | nil => exact .inl ⟨.inl rfl, rfl⟩
      | void _ _ a hgv => exact .inl ⟨.inr ⟨a, rfl⟩, rfl⟩
      | list _ _ _ b o cap vs hcap hkk hf hv hown ht =>
        right
        have hkk' : ∀ (i : Nat) (x : AV), ys[i]? = some x → x.cells.length = k := fun i x hx => by
          rcases hc with rfl | rfl
          · exact hkk i x hx
          · simp at hx
        have hidx : ∀ q, q < ys.length * k → q / k < ys.length ∧ q % k < k := fun q hq => ⟨Nat.div_lt_of_lt_mul (by rwa [Nat.mul_comm] at hq), Nat.mod_lt _ hk⟩
        have hcell : ∀ q, q < ys.length * k → s.fz b (o + q) = some (vs (q / k) (q % k)) := fun q hq => by
          obtain ⟨h1, h2⟩ := hidx q hq
          have hl := hkk' _ _ (List.getElem?_eq_getElem h1)
          have := hf (q / k) _ (q % k) _ (List.getElem?_eq_getElem h1) (List.getElem?_eq_getElem (by rw [hl]; exact h2))
          rcases hc with rfl | rfl
          · rwa [Nat.add_assoc, Nat.mul_comm, Nat.div_add_mod] at this
          · simp at h1
        refine ⟨b, o, cap, (List.range (ys.length * k)).map fun q => vs (q / k) (q % k), rfl, hcap, ⟨by simp, hkk', fun i x j c hx hc' => ?_, fun u hu => ?_⟩, fun i u hu => ?_⟩
        · have hi : i < ys.length := (List.getElem?_eq_some_iff.1 hx).1
          have hj : j < k := by rw [← hkk' i x hx]; exact (List.getElem?_eq_some_iff.1 hc').1
          have hlt : i * k + j < ys.length * k := by
            have : (i + 1) * k ≤ ys.length * k := Nat.mul_le_mul_right _ hi
            rw [Nat.add_mul, Nat.one_mul] at this
            omega
          refine ⟨vs i j, ?_, hv i x j c hx hc'⟩
          rw [List.getElem?_map, List.getElem?_range hlt, Option.map_some]
          have e1 : (i * k + j) / k = i := by
            rw [Nat.mul_comm, Nat.mul_add_div hk, Nat.div_eq_of_lt hj, Nat.add_zero]
          have e2 : (i * k + j) % k = j := by
            rw [Nat.mul_comm, Nat.mul_add_mod, Nat.mod_eq_of_lt hj]
          rw [e1, e2]
        · simp only [List.mem_map, List.mem_range] at hu
          obtain ⟨q, hq, rfl⟩ := hu
          exact (hm.fz _ _ _ (hcell q hq)).2
        · simp only [List.getElem?_map, Option.map_eq_some_iff] at hu
          obtain ⟨q, hq, rfl⟩ := hu
          have hlt : i < ys.length * k := by
            by_cases hlt : i < ys.length * k
            · exact hlt
            · rw [List.getElem?_eq_none (by simp; omega)] at hq; cases hq
          rw [List.getElem?_range hlt] at hq
          simp only [Option.some.injEq] at hq
          subst hq
          exact (hm.fz _ _ _ (hcell i hlt)).1
    · cases h
  · rename_i id ver off len
    split at h
    · rename_i ver' cs hid
      split at h
      · rename_i hc
        obtain ⟨rfl, hle⟩ := hc
        obtain ⟨b, c, e, h1, h2, h3, h4, h5⟩ := hm.obj id _ hid
        cases hx with
        | ref _ _ _ _ b2 cap ver2 b' n hl hv hb hcap hz =>
          rw [h1] at hl
          cases hl
          have := hb rfl
          simp only [Option.some.injEq] at this
          subst this
          simp only [Option.some.injEq] at h
          subst h
          right
          have hrow : ∀ q, off + q < cs.length → ∃ x v, cs[off + q]? = some x ∧ c[off + q]? = some v ∧ VR s x v ∧ Am.one v = true := fun q hq => by
            have hq2 : off + q < c.size := by omega
            obtain ⟨h6, h7⟩ := h4 (off + q) cs[off + q] c[off + q] (List.getElem?_eq_getElem hq) (Array.getElem?_eq_getElem hq2)
            exact ⟨_, _, List.getElem?_eq_getElem hq, Array.getElem?_eq_getElem hq2, h6, h7⟩
          have helem : ∀ (i : Nat) (x : AV), ((List.range len).map fun i => if k = 1 then (cs[off + i]?).getD (.tuple []) else .agg ((cs.drop (off + i * k)).take k))[i]? = some x →
              i < len ∧ x.cells.length = k ∧ ∀ (j : Nat) (y : AV), x.cells[j]? = some y → j < k ∧ cs[off + (i * k + j)]? = some y := by
            intro i x hx
            simp only [List.getElem?_map, Option.map_eq_some_iff] at hx
            obtain ⟨q, hq, rfl⟩ := hx
            have hi : i < len := by
              by_cases hi : i < len
              · exact hi
              · rw [List.getElem?_eq_none (by simp; omega)] at hq; cases hq
            rw [List.getElem?_range hi] at hq
            simp only [Option.some.injEq] at hq
            subst hq
            have hb2 : i * k + k ≤ len * k := by
              have : (i + 1) * k ≤ len * k := Nat.mul_le_mul_right _ hi
              rwa [Nat.add_mul, Nat.one_mul] at this
            refine ⟨hi, ?_⟩
            by_cases hk1 : k = 1
            · subst hk1
              rw [if_pos rfl]
              obtain ⟨x, v, g1, g2, g3, g4⟩ := hrow i (by omega)
              rw [g1, Option.getD_some, g3.one_cells g4]
              refine ⟨rfl, fun j y hy => ?_⟩
              cases j with
              | zero =>
                simp only [List.getElem?_cons_zero, Option.some.injEq] at hy
                subst hy
                exact ⟨by omega, by simpa using g1⟩
              | succ j => simp at hy
            · rw [if_neg hk1]
              refine ⟨by simp only [AV.cells, List.length_take, List.length_drop]; omega, fun j y hy => ?_⟩
              simp only [AV.cells, List.getElem?_take] at hy
              split at hy
              · rename_i hj
                rw [List.getElem?_drop] at hy
                exact ⟨hj, by rw [← Nat.add_assoc]; exact hy⟩
              · cases hy
          refine ⟨b, off, cap, (List.range (len * k)).map fun q => c.getD (off + q) undef, by simp, by simpa using hcap, ⟨by simp, fun i x hx => (helem i x hx).2.1, fun i x j y hx hy => ?_, fun u hu => ?_⟩, fun i u hu => ?_⟩
          · obtain ⟨hi, _, hh⟩ := helem i x hx
            obtain ⟨hj, hy'⟩ := hh j y hy
            have hb2 : i * k + k ≤ len * k := by
              have : (i + 1) * k ≤ len * k := Nat.mul_le_mul_right _ hi
              rwa [Nat.add_mul, Nat.one_mul] at this
            refine ⟨c.getD (off + (i * k + j)) undef, ?_, ?_⟩
            · rw [List.getElem?_map, List.getElem?_range (by omega), Option.map_some]
            · have hq2 : off + (i * k + j) < c.size := by omega
              have := (h4 _ y c[off + (i * k + j)] hy' (Array.getElem?_eq_getElem hq2)).1
              simpa [Array.getD, hq2] using this
          · simp only [List.mem_map, List.mem_range] at hu
            obtain ⟨q, hq, rfl⟩ := hu
            obtain ⟨x, v, g1, g2, g3, g4⟩ := hrow q (by omega)
            have hq2 : off + q < c.size := by omega
            rw [Array.getElem?_eq_getElem hq2] at g2
            simp only [Option.some.injEq] at g2
            simpa [Array.getD, hq2, g2] using g4
          · simp only [List.getElem?_map, Option.map_eq_some_iff] at hu
            obtain ⟨q, hq, rfl⟩ := hu
            have hlt : i < len * k := by
              by_cases hlt : i < len * k
              · exact hlt
              · rw [List.getElem?_eq_none (by simp; omega)] at hq; cases hq
            rw [List.getElem?_range hlt] at hq
            simp only [Option.some.injEq] at hq
            subst hq
            rw [cell_of_row w b _ c e (0, 0) h2]
            have hq2 : off + i < c.size := by omega
            simp [Array.getD, hq2]
      · cases h
    · cases h
  · cases h

/-- What a slice that grows holds. -/
theorem elems_own (hm : MR w0 s M w) {k : Nat} {g : Tag} {xv : Value} {xs : List AV} (hk : 0 < k) (hg : g ≠ .shared ∧ g ≠ .non) (hx : VR s (.list g k xs) xv) :
    (xv = .slice none 0 0 ∧ xs = []) ∨ ∃ b o cap cs, xv = .slice (some ⟨b, o, none⟩) xs.length cap ∧ xs.length ≤ cap ∧ LC s k xs cs ∧ ∀ i u, cs[i]? = some u → w.cell? ⟨b, o + i, none⟩ = some u := by
  rcases elems_run hm hk hx (k := k) (xs := xs) (by simp [Mem.elems]) with ⟨h | ⟨a, h⟩, h'⟩ | h
  · exact .inl ⟨h, h'⟩
  · subst h'
    cases hx with
    | nil => cases h
    | void _ _ a hv => rcases hv with rfl | rfl
                       · exact absurd rfl hg.1
                       · exact absurd rfl hg.2
    | list _ _ _ b o cap vs hcap hkk hf hv hown ht => exact .inr ⟨b, o, cap, [], rfl, hcap, ⟨by simp, by simp, by simp, by simp⟩, by simp⟩
  · exact .inr h
end
end Go.Am
namespace Go.Am
set_option linter.all false
open Go Go.RowKit

def okAppend (P : Program) (t : TypeId) (k bytes : Nat) : Bool :=
  match P.underlying t with
  | some (.slice e) => match P.info? e with
    | some i => match i.zero with
      | some z => i.size == k && i.bytes == bytes && z.cells.size == k && decide (0 < k)
      | none => false
    | none => false
  | _ => false

section
variable {P : Program} {w0 : Base} {w : World} {s : Sim} {M : Mem}

/-- A new block: the cells, and room behind them. -/
theorem grow_world (hm : MR w0 s M w) {k n cap : Nat} {xs : List AV} {cs : List Value} (hl : LC s k xs cs) (hk : 0 < k) (hn : xs.length = n) (hcap : n ≤ cap) (e : TypeId) (zs : Array Value) (hz : zs.size = (cap - n) * k) :
    ∃ s1, s.le s1 ∧ s1.loc = s.loc ∧ MR w0 s1 M (w.drew.alloc (.cells (cs.toArray ++ zs) e)) ∧ (∀ o, n * k ≤ o → s1.fz w.heap.size o = none) ∧ (cs.toArray ++ zs).size = cap * k ∧
      ∀ s' g, s1.le s' → TagOk s' g k n (some w.heap.size) cap → VR s' (.list g k xs) (.slice (some ⟨w.heap.size, 0, none⟩) n cap) := by
  subst hn
  have hd := hm.drew
  have hsz : (cs.toArray ++ zs).size = cap * k := by
    simp only [Array.size_append, List.size_toArray, hz, hl.len, ← Nat.add_mul]
    congr 1; omega
  have hle := le_freeze_new hd (fun o => cs[o]?)
  refine ⟨s.freeze w.heap.size (fun o => cs[o]?), hle, rfl, hd.allocFz _ e _ fun o v ho => ⟨?_, hl.one v (List.mem_of_getElem? ho)⟩, fun o ho => ?_, hsz, fun s' g hs ht => ?_⟩
  · have hlt := (List.getElem?_eq_some_iff.1 ho).1
    rw [Array.getElem?_append_left (by simpa using hlt)]
    simpa using ho
  · simp only [Sim.freeze, if_true]
    exact List.getElem?_eq_none (by rw [hl.len]; exact ho)
  · refine VR.of_LC (hl.mono (hle.trans hs)) hk (fun i u hu => hs.fz _ _ _ ?_) hcap (fun _ _ => rfl) ht
    simpa [Sim.freeze] using hu

theorem run_append_none {t ty e : TypeId} (ht : P.underlying t = some (.slice e)) {i : TypeInfo} (hi : P.info? e = some i) (a : Option Addr) (n cap : Nat) (hc : n ≤ cap) (y : Value) (hy : y = .slice none 0 0 ∨ ∃ b c, y = .slice (some b) 0 c) :
    (Builtin.append_ #[t, t] ty #[.slice a n cap, y]).run P w = .ok (.slice a n cap) w := by
  have hf : ∀ size, (Builtin.firstCells size 0 y).run P w = .ok #[] w := fun size => by
    rcases hy with rfl | ⟨b, c, rfl⟩
    · simp [Builtin.firstCells]
    · simp [Builtin.firstCells, loadCells, loadCellsFrom]
  have hl : (Builtin.lenOf y) = (pure 0 : Sem Nat) := by
    rcases hy with rfl | ⟨b, c, rfl⟩ <;> rfl
  cases a with
  | none => simp [Builtin.append_, run_underlying ht, sizeOf, typeInfo, hi, hl, hc, hf]
  | some a => simp [Builtin.append_, run_underlying ht, sizeOf, typeInfo, hi, hl, hc, hf, storeCells]

theorem run_append_in (t ty e e0 : TypeId) (i : TypeInfo) (ht : P.underlying t = some (.slice e)) (hi : P.info? e = some i)
    (g sLen sCap : Nat) (cur : Array Value) (hg : w.heap[g]? = some (.cells cur e0 (0, 0)))
    (a : Addr) (m c : Nat) (news : List Value) (hl : news.length = m * i.size) (hnews : ∀ j u, news[j]? = some u → w.cell? (a.add j) = some u) (h1 : ∀ u ∈ news, u.oneCell' = true)
    (hroom : sLen + m ≤ sCap) (hfit : sLen * i.size + news.length ≤ cur.size) :
    (Builtin.append_ #[t, t] ty #[.slice (some ⟨g, 0, none⟩) sLen sCap, .slice (some a) m c]).run P w =
      .ok (.slice (some ⟨g, 0, none⟩) (sLen + m) sCap) (w.setRow g (cur.toList.take (sLen * i.size) ++ news ++ cur.toList.drop (sLen * i.size + news.length)).toArray) := by
  have hf := run_firstCells_some (P := P) w i.size m a m c news hl hnews
  have hst := run_storeCells_at P g (sLen * i.size) e0 news 0 cur w hg (by simpa using hfit) h1
  simp only [Nat.add_zero] at hst
  simp [Builtin.append_, run_underlying ht, sizeOf, typeInfo, hi, Builtin.lenOf, hroom, hf, Addr.add_lit, hst]

/-! Rows that grow. -/

theorem flat_cons {x : AV} {xs : List AV} : flat (x :: xs) = x.cells ++ flat xs := rfl
theorem flat_len {k : Nat} : ∀ {xs : List AV}, (∀ (i : Nat) (x : AV), xs[i]? = some x → x.cells.length = k) → (flat xs).length = xs.length * k := by
  intro xs
  induction xs with
  | nil => intro _; simp [flat]
  | cons x xs ih =>
    intro h
    rw [flat_cons, List.length_append, ih (fun i y hy => h (i + 1) y (by simpa using hy)), h 0 x rfl, List.length_cons, Nat.add_mul, Nat.one_mul, Nat.add_comm]
theorem flat_get {k : Nat} : ∀ {xs : List AV}, (∀ (i : Nat) (x : AV), xs[i]? = some x → x.cells.length = k) → ∀ {q : Nat} {c : AV}, (flat xs)[q]? = some c → ∃ i j x, q = i * k + j ∧ xs[i]? = some x ∧ x.cells[j]? = some c := by
  intro xs
  induction xs with
  | nil => intro _ q c h; simp [flat] at h
  | cons x xs ih =>
    intro hk q c h
    have hx := hk 0 x rfl
    rw [flat_cons, List.getElem?_append] at h
    split at h
    · exact ⟨0, q, x, by simp, rfl, h⟩
    · obtain ⟨i, j, y, h1, h2, h3⟩ := ih (fun i y hy => hk (i + 1) y (by simpa using hy)) h
      refine ⟨i + 1, j, y, ?_, by simpa using h2, h3⟩
      rw [Nat.add_mul, Nat.one_mul]
      omega

theorem LC.flat {k : Nat} {xs : List AV} {cs : List Value} (h : LC s k xs cs) {q : Nat} {x : AV} {v : Value} (hx : (Am.flat xs)[q]? = some x) (hv : cs[q]? = some v) : VR s x v ∧ Am.one v = true := by
  obtain ⟨i, j, y, rfl, h2, h3⟩ := flat_get h.size hx
  obtain ⟨u, h4, h5⟩ := h.get i y j x h2 h3
  rw [hv] at h4
  cases h4
  exact ⟨h5, h.one v (List.mem_of_getElem? hv)⟩

theorem unitOf_add (ver : Nat) : unitOf (ver + 65536) = unitOf ver := by simp [unitOf]
theorem unitOf_lt {k : Nat} (h : k < 65536) : unitOf k = k := Nat.mod_eq_of_lt h

/-- A block for a row, its cells as they are told, and room behind them. -/
theorem row_world (hm : MR w0 s M w) {k n cap : Nat} {xs : List AV} {cs : List Value} (hl : LC s k xs cs) (hn : xs.length = n) (hcap : n ≤ cap) (e : TypeId) (zs : Array Value) (hz : zs.size = (cap - n) * k) :
    (cs.toArray ++ zs).size = cap * k ∧ (flat xs).length ≤ (cs.toArray ++ zs).size ∧ ∀ (i : Nat) (x : AV) (v : Value), (flat xs)[i]? = some x → (cs.toArray ++ zs)[i]? = some v → VR s x v ∧ one v = true := by
  subst hn
  have hsz : (cs.toArray ++ zs).size = cap * k := by
    simp only [Array.size_append, List.size_toArray, hz, hl.len, ← Nat.add_mul]
    congr 1; omega
  have hfl := flat_len hl.size
  refine ⟨hsz, ?_, fun i x v hx hv => ?_⟩
  · rw [hsz, hfl]; exact Nat.mul_le_mul_right _ hcap
  · have hlt := (List.getElem?_eq_some_iff.1 hx).1
    rw [hfl, ← hl.len] at hlt
    rw [Array.getElem?_append_left (by simpa using hlt)] at hv
    exact hl.flat hx (by simpa using hv)

theorem append_run (hm : MR w0 s M w) {t ty : TypeId} {k bytes hint : Nat} {x y v : AV} {xv yv : Value} {ys0 : List AV} {M' : Mem} (hok : okAppend P t k bytes = true) (hx : VR s x xv) (hy : VR s y yv)
    (hys : M.elems k y = some ys0) (h : aAppend M k bytes x (ys0.map AV.untag) hint = some (v, M')) :
    ∃ s' w' u, s.le s' ∧ MR w0 s' M' w' ∧ (Builtin.append_ #[t, t] ty #[xv, yv]).run P w = .ok u w' ∧ VR s' v u := by
  unfold okAppend at hok
  split at hok
  · rename_i e he
    split at hok
    · rename_i i hi
      split at hok
      · rename_i z hz
        simp only [Bool.and_eq_true, beq_iff_eq, decide_eq_true_eq] at hok
        obtain ⟨⟨⟨rfl, rfl⟩, hzs⟩, hk⟩ := hok
        unfold aAppend at h
        split at h
        · rename_i g k' xs
          split at h
          · rename_i hc
            obtain ⟨hkk, hbytes, hroom, hall, _⟩ := hc
            simp only [List.length_map] at hbytes hroom
            have hx2 : VR s (.list g i.size xs) xv := by
              rcases hkk with rfl | ⟨rfl, hfree⟩
              · exact hx
              · cases hx with
                | nil _ _ ht =>
                  refine .nil g _ ?_
                  cases g with
                  | shared => trivial
                  | full => exact ht
                  | nil => exact ht
                  | non => exact ht
                  | own t => cases hfree
                | void _ _ a hgv => exact .void _ _ a hgv
                | list _ _ _ b o cap vs hcap hk' hf hv ho ht =>
                  refine .list g _ [] b o cap vs hcap (by simp) (by simp) (by simp) ho ?_
                  cases g with
                  | shared => trivial
                  | full => exact ht
                  | nil => exact ht
                  | non => exact ht
                  | own t => cases hfree
            split at h
            · rename_i hemp
              simp only [Option.some.injEq, Prod.mk.injEq] at h
              obtain ⟨rfl, rfl⟩ := h
              have hys0 : ys0 = [] := by simpa using hemp
              subst hys0
              have hyv : yv = .slice none 0 0 ∨ ∃ b c, yv = .slice (some b) 0 c := by
                rcases elems_run hm hk hy hys with ⟨h1 | ⟨a, h1⟩, _⟩ | ⟨b, o, cap, cs, h1, _⟩
                · exact .inl h1
                · exact .inr ⟨_, _, h1⟩
                · exact .inr ⟨_, _, h1⟩
              have : ∃ a n cap, xv = .slice a n cap ∧ n ≤ cap := by
                cases hx2 with
                | nil => exact ⟨_, _, _, rfl, Nat.le_refl _⟩
                | void => exact ⟨_, _, _, rfl, Nat.le_refl _⟩
                | list _ _ _ b o cap vs hcap => exact ⟨_, _, _, rfl, hcap⟩
              obtain ⟨a, n, cap, rfl, hcap⟩ := this
              exact ⟨s, w, _, .refl s, hm, run_append_none he hi a n cap hcap yv hyv, hx2⟩
            · rename_i hne
              have hne0 : ys0 ≠ [] := fun e => hne (by rw [e]; rfl)
              have hpos : 0 < ys0.length := List.length_pos_iff.2 hne0
              obtain ⟨b2, o2, cap2, ds, rfl, hcap2, hld0, hcell2⟩ : ∃ b o cap cs, yv = .slice (some ⟨b, o, none⟩) ys0.length cap ∧ ys0.length ≤ cap ∧ LC s i.size ys0 cs ∧ ∀ q u, cs[q]? = some u → w.cell? ⟨b, o + q, none⟩ = some u := by
                rcases elems_run hm hk hy hys with ⟨_, h1⟩ | h1
                · exact absurd h1 hne0
                · exact h1
              have hld := hld0.untag
              have hnews : ∀ j u, ds[j]? = some u → w.cell? ((⟨b2, o2, none⟩ : Addr).add j) = some u := fun j u hj => by rw [Addr.add_lit]; exact hcell2 j u hj
              have hdl : ds.length = ys0.length * i.size := hld0.len
              unfold room at hbytes hroom
              have h63 : ((xs.length + ys0.length : Nat) : Int) ≤ 9223372036854775807 := by omega
              -- what grows
              have grow : ∀ (cs : List Value) (hl : LC s i.size xs cs), (∀ (xcap : Nat), xcap < xs.length + ys0.length → ∀ (ex : (xv = .slice none 0 0 ∧ xs = [] ∧ xcap = 0) ∨ ∃ b o, xv = .slice (some ⟨b, o, none⟩) xs.length xcap ∧ ∀ q u, cs[q]? = some u → w.cell? ⟨b, o + q, none⟩ = some u),
                  ∃ s1 C, s.le s1 ∧ s1.loc = s.loc ∧ MR w0 s1 M (w.drew.alloc (.cells C e)) ∧ (∀ o, (xs.length + ys0.length) * i.size ≤ o → s1.fz w.heap.size o = none) ∧
                    ∃ cap, C.size = cap * i.size ∧ xs.length + ys0.length ≤ cap ∧ (Builtin.append_ #[t, t] ty #[xv, .slice (some ⟨b2, o2, none⟩) ys0.length cap2]).run P w = .ok (.slice (some ⟨w.heap.size, 0, none⟩) (xs.length + ys0.length) cap) (w.drew.alloc (.cells C e)) ∧
                    ∀ s' g, s1.le s' → TagOk s' g i.size (xs.length + ys0.length) (some w.heap.size) cap → VR s' (.list g i.size (xs ++ ys0.map AV.untag)) (.slice (some ⟨w.heap.size, 0, none⟩) (xs.length + ys0.length) cap)) := by
                intro cs hl xcap hlt ex
                have hge := grownCap_ge w (xs.length + ys0.length) xcap e
                obtain ⟨s1, g1, g2, g3, g4, g5, g6⟩ := grow_world hm (hl.append hld) hk (n := xs.length + ys0.length) (by simp) hge e (Builtin.zeroCells z.cells (grownCap w (xs.length + ys0.length) xcap e - (xs.length + ys0.length))) (by rw [size_zeroCells, hzs])
                refine ⟨s1, _, g1, g2, g3, g4, _, g5, hge, ?_, g6⟩
                rcases ex with ⟨rfl, rfl, rfl⟩ | ⟨b, o, rfl, hcell⟩
                · have hcs : cs = [] := List.eq_nil_of_length_eq_zero (by rw [hl.len]; simp)
                  subst hcs
                  have := run_append_nil (P := P) w t ty e i z he hi hz ⟨b2, o2, none⟩ ys0.length cap2 ds hdl hnews hpos (by simp at h63; omega) (by simp at hbytes; omega)
                  simpa using this
                · have := run_append_grow (P := P) w t ty e i z he hi hz ⟨b, o, none⟩ xs.length xcap cs hl.len (fun j v hj => by rw [Addr.add_lit]; exact hcell j v hj) ⟨b2, o2, none⟩ ys0.length cap2 ds hdl hnews hlt h63 (growslice_fits hlt (by omega))
                  rw [this]
                  simp
              have hxe : (_ ≠ Tag.shared ∧ _ ≠ Tag.non) → _ := fun hg => elems_own hm hk hg hx2
              split at h
              · -- own
                rename_i tt
                split at h
                · rename_i n htip
                  split at h
                  · rename_i hn
                    subst hn
                    simp only [Option.some.injEq, Prod.mk.injEq, List.length_map] at h
                    obtain ⟨rfl, rfl⟩ := h
                    have htid : tt < M.objs.length := (List.getElem?_eq_some_iff.1 htip).1
                    obtain ⟨k1, a1, c1, hloc, hrest⟩ := hm.obj tt _ htip
                    have setTip : ∀ (s1 : Sim) (C : Array Value) (cap : Nat), s.le s1 → s1.loc = s.loc → MR w0 s1 M (w.drew.alloc (.cells C e)) → (∀ o, (xs.length + ys0.length) * i.size ≤ o → s1.fz w.heap.size o = none) → C.size = cap * i.size → xs.length + ys0.length ≤ cap →
                        ∃ s', s1.le s' ∧ MR w0 s' (M.put tt (.tip (xs.length + ys0.length))) (w.drew.alloc (.cells C e)) ∧ s'.loc tt = some (.tip (xs.length + ys0.length) i.size (some w.heap.size) cap) := by
                      intro s1 C cap g1 g2 g3 g4 g5 g6
                      have hnew : (w.drew.alloc (.cells C e)).heap[w.heap.size]? = some (.cells C e (0, 0)) := heap_alloc_new w.drew _
                      have hl2 : s1.loc tt = some (.tip xs.length k1 a1 c1) := by rw [g2]; exact hloc
                      have hmain := g3.setObj htid (.tip (xs.length + ys0.length)) (.tip (xs.length + ys0.length) i.size (some w.heap.size) cap) hl2
                        ⟨Nat.le_add_right _ _, fun e => absurd e (by omega)⟩ (w.drew.alloc (.cells C e)) s1.fz (fun _ _ _ h => h) (fun _ _ _ => rfl) (fun _ _ _ => rfl) g3.below
                        (fun b hb => by
                          simp only [Loc.block, Option.some.injEq] at hb
                          subst hb
                          refine ⟨hm.below.size, .inr ⟨fun i' l' hl' hb' => ?_, by rw [hnew]; simp, hm.held_new⟩⟩
                          rw [g2] at hl'
                          exact absurd (hm.block_lt hl' hb') (Nat.lt_irrefl _))
                        (fun b o v hb hf => g3.fz b o v hf)
                        ⟨i.size, some w.heap.size, cap, by simp [Sim.setLoc], C, e, hnew, g5, g6, hk, g4⟩ none
                      exact ⟨_, hmain.1, MR.put_of hm hmain.2, by simp [Sim.setLoc]⟩
                    rcases hxe (by simp) with ⟨rfl, rfl⟩ | ⟨b, o, cap, cs, rfl, hcap, hl, hcell⟩
                    · obtain ⟨s1, C, g1, g2, g3, g4, cap', g5, g6, g7, g8⟩ := grow [] ⟨by simp, by simp, by simp, by simp⟩ 0 (by omega) (.inl ⟨rfl, rfl, rfl⟩)
                      obtain ⟨s', q1, q2, q3⟩ := setTip s1 C cap' g1 g2 g3 g4 g5 g6
                      exact ⟨s', _, _, g1.trans q1, q2, g7, g8 s' _ q1 ⟨_, _, _, _, q3, Nat.le_refl _, fun _ => ⟨rfl, rfl, .inl rfl⟩⟩⟩
                    · by_cases hfits : xs.length + ys0.length ≤ cap
                      · -- in place
                        cases hx2 with
                        | void _ _ _ hgv => rcases hgv with h | h <;> cases h
                        | list _ _ _ _ _ _ vs _ hk' hf hv hown htag =>
                          have ho := hown tt rfl
                          subst ho
                          obtain ⟨n', k', a', c', t1, t2, t3⟩ := htag
                          rw [hloc] at t1
                          simp only [Option.some.injEq, Loc.tip.injEq] at t1
                          obtain ⟨rfl, rfl, rfl, rfl⟩ := t1
                          obtain ⟨rfl, rfl, hkk1⟩ := t3 rfl
                          obtain ⟨C, e0, p1, p2, p3, p4, p6⟩ := hrest
                          have hke : k1 = i.size := by
                            rcases hkk1 with h | h
                            · exact h
                            · cases h
                          subst hke
                          have hfit2 : xs.length * i.size + ds.length ≤ C.size := by
                            rw [hdl, p2, ← Nat.add_mul]
                            exact Nat.mul_le_mul_right _ hfits
                          have hrun := run_append_in (P := P) (w := w) t ty e e0 i he hi b xs.length c1 C p1 ⟨b2, o2, none⟩ ys0.length cap2 ds hdl hnews (fun u hu => by rw [one_iff]; exact hld0.one u hu) hfits hfit2
                          have hB : w0.heap.size ≤ b := hm.own tt _ b hloc rfl
                          have hnew := setRow_heap w b C (C.toList.take (xs.length * i.size) ++ ds ++ C.toList.drop (xs.length * i.size + ds.length)).toArray e0 _ p1
                          have hgetC : ∀ q, (C.toList.take (xs.length * i.size) ++ ds ++ C.toList.drop (xs.length * i.size + ds.length)).toArray[q]? = if xs.length * i.size ≤ q ∧ q < xs.length * i.size + ds.length then ds[q - xs.length * i.size]? else C[q]? := fun q => by
                            have := spliced_get (l := C.toList) (xs := ds) (off := xs.length * i.size) (by simpa using hfit2) q
                            simpa using this
                          have hfzlt : ∀ q v, s.fz b q = some v → q < xs.length * i.size := fun q v hq => by
                            rcases Nat.lt_or_ge q (xs.length * i.size) with h | h
                            · exact h
                            · rw [p6 q h] at hq; cases hq
                          have hmain := hm.setObj htid (.tip (xs.length + ys0.length)) (.tip (xs.length + ys0.length) i.size (some b) c1) hloc ⟨Nat.le_add_right _ _, fun e => absurd e (by omega)⟩
                            (w.setRow b (C.toList.take (xs.length * i.size) ++ ds ++ C.toList.drop (xs.length * i.size + ds.length)).toArray)
                            (fun b' q => if b' = b ∧ xs.length * i.size ≤ q then ds[q - xs.length * i.size]? else s.fz b' q)
                            (fun b' q v hq => by
                              by_cases e1 : b' = b
                              · subst e1
                                have := hfzlt q v hq
                                rw [if_neg (by omega)]; exact hq
                              · rw [if_neg (by simp [e1])]; exact hq)
                            (fun b' q hb' => by
                              have : b' ≠ b := fun e1 => hb' (by rw [e1]; rfl)
                              rw [if_neg (by simp [this])])
                            (fun b' hb' _ => setRow_other w b b' _ (fun e1 => hb' (by rw [e1]; rfl)))
                            (below_setRow hm.below hB _)
                            (fun b' hb' => ⟨by cases hb'; exact hB, .inl hb'⟩)
                            (fun b' q v hb' hq => by
                              cases hb'
                              rw [cell_of_row _ b q _ e0 (0, 0) hnew, hgetC q]
                              split at hq
                              · rename_i hcond
                                have hlt := (List.getElem?_eq_some_iff.1 hq).1
                                rw [if_pos ⟨hcond.2, by omega⟩]
                                exact ⟨hq, hld0.one v (List.mem_of_getElem? hq)⟩
                              · have hlt := hfzlt q v hq
                                rw [if_neg (by omega)]
                                obtain ⟨r1, r2⟩ := hm.fz b q v hq
                                rw [cell_of_row w b q C e0 (0, 0) p1] at r1
                                exact ⟨r1, r2⟩)
                            ⟨i.size, some b, c1, by simp [Sim.setLoc], _, e0, hnew, by simp only [List.size_toArray, List.length_append, List.length_take, List.length_drop, Array.length_toList]; omega, hfits, hk, fun q hq => by
                              have hq2 : xs.length * i.size + ds.length ≤ q := by rw [hdl, ← Nat.add_mul]; exact hq
                              show (if b = b ∧ xs.length * i.size ≤ q then ds[q - xs.length * i.size]? else s.fz b q) = none
                              rw [if_pos ⟨rfl, by omega⟩]
                              exact List.getElem?_eq_none (by omega)⟩ none
                          refine ⟨_, _, _, hmain.1, MR.put_of hm hmain.2, hrun, ?_⟩
                          have hL : LC _ i.size (xs ++ ys0.map AV.untag) (cs ++ ds) := (hl.append hld).mono hmain.1
                          have := VR.of_LC hL hk (g := .own tt) (b := b) (o := 0) (cap := c1) (fun q u hq => ?_) (by simpa using hfits) (fun _ _ => rfl) ⟨xs.length + ys0.length, i.size, some b, c1, by simp [Sim.setLoc], by simp, fun _ => ⟨rfl, rfl, .inl rfl⟩⟩
                          · simpa using this
                          · simp only [Nat.zero_add]
                            rw [List.getElem?_append] at hq
                            split at hq
                            · rename_i hlt
                              rw [hl.len] at hlt
                              rw [if_neg (by omega)]
                              -- an old cell is frozen
                              have hidx : q / i.size < xs.length ∧ q % i.size < i.size := ⟨Nat.div_lt_of_lt_mul (by rwa [Nat.mul_comm] at hlt), Nat.mod_lt _ hk⟩
                              have hxq := List.getElem?_eq_getElem hidx.1
                              have hcq := hk' _ _ hxq
                              have h5 := hf (q / i.size) _ (q % i.size) _ hxq (List.getElem?_eq_getElem (by rw [hcq]; exact hidx.2))
                              rw [Nat.zero_add, Nat.mul_comm, Nat.div_add_mod] at h5
                              have h6 := (hm.fz _ _ _ h5).1
                              have h7 := hcell q u hq
                              rw [Nat.zero_add] at h7
                              rw [h7] at h6
                              simp only [Option.some.injEq] at h6
                              rw [h5, h6]
                            · rename_i hge
                              rw [hl.len] at hge hq
                              rw [if_pos ⟨trivial, by omega⟩]
                              exact hq
                      · obtain ⟨s1, C, g1, g2, g3, g4, cap', g5, g6, g7, g8⟩ := grow cs hl cap (by omega) (.inr ⟨b, o, rfl, hcell⟩)
                        obtain ⟨s', q1, q2, q3⟩ := setTip s1 C cap' g1 g2 g3 g4 g5 g6
                        exact ⟨s', _, _, g1.trans q1, q2, g7, g8 s' _ q1 ⟨_, _, _, _, q3, Nat.le_refl _, fun _ => ⟨rfl, rfl, .inl rfl⟩⟩⟩
                  · cases h
                · cases h
              · -- full: a row that may grow
                split at h
                · split at h
                  · rename_i hk64
                    simp only [Option.some.injEq, Prod.mk.injEq, List.length_map] at h
                    obtain ⟨rfl, rfl⟩ := h
                    have row : ∀ (cs : List Value) (hl : LC s i.size xs cs) (xcap : Nat), xcap < xs.length + ys0.length → ∀ (ex : (xv = .slice none 0 0 ∧ xs = [] ∧ xcap = 0) ∨ ∃ b o, xv = .slice (some ⟨b, o, none⟩) xs.length xcap ∧ ∀ q u, cs[q]? = some u → w.cell? ⟨b, o + q, none⟩ = some u),
                        ∃ s' w' u, s.le s' ∧ MR w0 s' (M.push (.row i.size (flat (xs ++ ys0.map AV.untag)))) w' ∧ (Builtin.append_ #[t, t] ty #[xv, .slice (some ⟨b2, o2, none⟩) ys0.length cap2]).run P w = .ok u w' ∧ VR s' (.ref M.objs.length i.size 0 (xs.length + ys0.length)) u := by
                      intro cs hl xcap hlt ex
                      have hge := grownCap_ge w (xs.length + ys0.length) xcap e
                      obtain ⟨g1, g2, g3⟩ := row_world hm (hl.append hld) (n := xs.length + ys0.length) (by simp) hge e (Builtin.zeroCells z.cells (grownCap w (xs.length + ys0.length) xcap e - (xs.length + ys0.length))) (by rw [size_zeroCells, hzs])
                      have hd := hm.drew
                      refine ⟨_, _, .slice (some ⟨w.heap.size, 0, none⟩) (xs.length + ys0.length) (grownCap w (xs.length + ys0.length) xcap e), le_setLoc_new hd _, hd.newRowV i.size _ _ e g2 g3, ?_, ?_⟩
                      · rcases ex with ⟨rfl, rfl, rfl⟩ | ⟨b, o, rfl, hcell⟩
                        · have hcs : cs = [] := List.eq_nil_of_length_eq_zero (by rw [hl.len]; simp)
                          subst hcs
                          have := run_append_nil (P := P) w t ty e i z he hi hz ⟨b2, o2, none⟩ ys0.length cap2 ds hdl hnews hpos (by simp at h63; omega) (by simp at hbytes; omega)
                          simpa using this
                        · have := run_append_grow (P := P) w t ty e i z he hi hz ⟨b, o, none⟩ xs.length xcap cs hl.len (fun j v hj => by rw [Addr.add_lit]; exact hcell j v hj) ⟨b2, o2, none⟩ ys0.length cap2 ds hdl hnews hlt h63 (growslice_fits hlt (by omega))
                          rw [this]
                          simp
                      · exact .ref _ _ _ _ w.heap.size _ i.size (some w.heap.size) _ (setLoc_self _ _ _) (Nat.le_refl _) (fun _ => rfl) hge (fun _ _ => by rw [unitOf_lt hk64, g1]; omega)
                    rcases hxe (by simp) with ⟨rfl, rfl⟩ | ⟨b, o, cap, cs, rfl, hcap, hl, hcell⟩
                    · exact row [] ⟨by simp, by simp, by simp, by simp⟩ 0 (by omega) (.inl ⟨rfl, rfl, rfl⟩)
                    · have hcapeq : cap = xs.length := by
                        cases hx2 with
                        | void _ _ _ hgv => rcases hgv with h | h <;> cases h
                        | list _ _ _ _ _ _ vs _ _ _ _ _ htag => exact htag
                      exact row cs hl cap (by omega) (.inr ⟨b, o, rfl, hcell⟩)
                  · cases h
                -- full
                simp only [Option.some.injEq, Prod.mk.injEq, List.length_map] at h
                obtain ⟨rfl, rfl⟩ := h
                have pushTip : ∀ (s1 : Sim) (C : Array Value) (cap : Nat), s.le s1 → s1.loc = s.loc → MR w0 s1 M (w.drew.alloc (.cells C e)) → (∀ o, (xs.length + ys0.length) * i.size ≤ o → s1.fz w.heap.size o = none) → C.size = cap * i.size → xs.length + ys0.length ≤ cap →
                    ∃ s', s1.le s' ∧ MR w0 s' (M.push (.tip (xs.length + ys0.length))) (w.drew.alloc (.cells C e)) ∧ s'.loc M.objs.length = some (.tip (xs.length + ys0.length) i.size (some w.heap.size) cap) := by
                  intro s1 C cap g1 g2 g3 g4 g5 g6
                  have hnew : (w.drew.alloc (.cells C e)).heap[w.heap.size]? = some (.cells C e (0, 0)) := heap_alloc_new w.drew _
                  have := g3.pushObj (.tip (xs.length + ys0.length)) (.tip (xs.length + ys0.length) i.size (some w.heap.size) cap) (fun b hb => by
                    simp only [Loc.block, Option.some.injEq] at hb
                    subst hb
                    refine ⟨hm.below.size, fun i' l' hl' hb' => ?_, hm.held_new⟩
                    rw [g2] at hl'
                    exact absurd (hm.block_lt hl' hb') (Nat.lt_irrefl _)) ⟨i.size, some w.heap.size, cap, setLoc_self _ _ _, C, e, hnew, g5, g6, hk, g4⟩
                  exact ⟨_, le_setLoc_new g3 _, this, setLoc_self _ _ _⟩
                rcases hxe (by simp) with ⟨rfl, rfl⟩ | ⟨b, o, cap, cs, rfl, hcap, hl, hcell⟩
                · obtain ⟨s1, C, g1, g2, g3, g4, cap', g5, g6, g7, g8⟩ := grow [] ⟨by simp, by simp, by simp, by simp⟩ 0 (by omega) (.inl ⟨rfl, rfl, rfl⟩)
                  obtain ⟨s', q1, q2, q3⟩ := pushTip s1 C cap' g1 g2 g3 g4 g5 g6
                  exact ⟨s', _, _, g1.trans q1, q2, g7, g8 s' _ q1 ⟨_, _, _, _, q3, Nat.le_refl _, fun _ => ⟨rfl, rfl, .inl rfl⟩⟩⟩
                · have hcapeq : cap = xs.length := by
                    cases hx2 with
                    | void _ _ _ hgv => rcases hgv with h | h <;> cases h
                    | list _ _ _ _ _ _ vs _ _ _ _ _ htag => exact htag
                  obtain ⟨s1, C, g1, g2, g3, g4, cap', g5, g6, g7, g8⟩ := grow cs hl cap (by omega) (.inr ⟨b, o, rfl, hcell⟩)
                  obtain ⟨s', q1, q2, q3⟩ := pushTip s1 C cap' g1 g2 g3 g4 g5 g6
                  exact ⟨s', _, _, g1.trans q1, q2, g7, g8 s' _ q1 ⟨_, _, _, _, q3, Nat.le_refl _, fun _ => ⟨rfl, rfl, .inl rfl⟩⟩⟩
              · cases h
          · cases h
        · -- a row grows
          rename_i id ver off len
          split at h
          · rename_i hc
            obtain ⟨hun, rfl, hbytes, hroom, hall, _⟩ := hc
            simp only [List.length_map] at hbytes hroom
            cases hx with
            | ref _ _ _ _ b cap ver' b' nz hl hv hb hcap hz0 =>
              split at h
              · rename_i hemp
                simp only [Option.some.injEq, Prod.mk.injEq] at h
                obtain ⟨rfl, rfl⟩ := h
                have hys0 : ys0 = [] := by simpa using hemp
                subst hys0
                have hyv : yv = .slice none 0 0 ∨ ∃ b c, yv = .slice (some b) 0 c := by
                  rcases elems_run hm hk hy hys with ⟨h1 | ⟨a, h1⟩, _⟩ | ⟨b, o, cap, cs, h1, _⟩
                  · exact .inl h1
                  · exact .inr ⟨_, _, h1⟩
                  · exact .inr ⟨_, _, h1⟩
                exact ⟨s, w, _, .refl s, hm, run_append_none he hi _ len cap hcap yv hyv, .ref _ _ _ _ b cap ver' b' nz hl hv hb hcap hz0⟩
              · rename_i hne
                have hne0 : ys0 ≠ [] := fun e => hne (by rw [e]; rfl)
                have hpos : 0 < ys0.length := List.length_pos_iff.2 hne0
                obtain ⟨b2, o2, cap2, ds, rfl, hcap2, hld0, hcell2⟩ : ∃ b o cap cs, yv = .slice (some ⟨b, o, none⟩) ys0.length cap ∧ ys0.length ≤ cap ∧ LC s i.size ys0 cs ∧ ∀ q u, cs[q]? = some u → w.cell? ⟨b, o + q, none⟩ = some u := by
                  rcases elems_run hm hk hy hys with ⟨_, h1⟩ | h1
                  · exact absurd h1 hne0
                  · exact h1
                have hld := hld0.untag
                have hnews : ∀ j u, ds[j]? = some u → w.cell? ((⟨b2, o2, none⟩ : Addr).add j) = some u := fun j u hj => by rw [Addr.add_lit]; exact hcell2 j u hj
                have hdl : ds.length = ys0.length * i.size := hld0.len
                unfold room at hbytes hroom
                have h63 : ((len + ys0.length : Nat) : Int) ≤ 9223372036854775807 := by omega
                split at h
                · rename_i ver2 cs hid
                  split at h
                  · rename_i hc2
                    obtain ⟨rfl, hcl⟩ := hc2
                    simp only [Option.some.injEq, Prod.mk.injEq, List.length_map] at h
                    obtain ⟨rfl, rfl⟩ := h
                    have hidl : id < M.objs.length := (List.getElem?_eq_some_iff.1 hid).1
                    obtain ⟨bb, c, e0, h1, h2, h3, h4, h5⟩ := hm.obj id _ hid
                    have hct : (cs.take (len * i.size)).length = len * i.size := by rw [List.length_take]; omega
                    have h4c : ∀ (q : Nat) (x : AV) (v : Value), (cs.take (len * i.size))[q]? = some x → c[q]? = some v → VR s x v ∧ one v = true := fun q x v hx hv => h4 q x v (by
                      rw [List.getElem?_take] at hx
                      split at hx
                      · exact hx
                      · cases hx) hv
                    have hle0 : len * i.size ≤ c.size := Nat.le_trans hcl h3
                    clear hcl h4
                    generalize cs.take (len * i.size) = ct at hct h4c ⊢
                    rename (ct.length = len * i.size) => hcl
                    have h4 := h4c
                    rw [h1] at hl
                    cases hl
                    have hbb := hb rfl
                    simp only [Option.some.injEq] at hbb
                    subst hbb
                    have hroomb : cap * i.size ≤ c.size := by
                      have := hz0 rfl (by omega)
                      rw [hun] at this
                      omega
                    have hfl : (flat (ys0.map AV.untag)).length = ys0.length * i.size := by
                      have := flat_len hld.size
                      simpa using this
                    by_cases hfits : len + ys0.length ≤ cap
                    · -- in place
                      have hfit2 : len * i.size + ds.length ≤ c.size := by
                        rw [hdl, ← Nat.add_mul]
                        exact Nat.le_trans (Nat.mul_le_mul_right _ hfits) hroomb
                      have hrun := run_append_in (P := P) (w := w) t ty e e0 i he hi bb len cap c h2 ⟨b2, o2, none⟩ ys0.length cap2 ds hdl hnews (fun u hu => by rw [one_iff]; exact hld0.one u hu) hfits hfit2
                      have hB : w0.heap.size ≤ bb := hm.own id _ bb h1 rfl
                      have hnew := setRow_heap w bb c (c.toList.take (len * i.size) ++ ds ++ c.toList.drop (len * i.size + ds.length)).toArray e0 _ h2
                      have hsz2 : (c.toList.take (len * i.size) ++ ds ++ c.toList.drop (len * i.size + ds.length)).toArray.size = c.size := by
                        simp only [List.size_toArray, List.length_append, List.length_take, List.length_drop, Array.length_toList]
                        omega
                      have hgetC : ∀ q, (c.toList.take (len * i.size) ++ ds ++ c.toList.drop (len * i.size + ds.length)).toArray[q]? = if len * i.size ≤ q ∧ q < len * i.size + ds.length then ds[q - len * i.size]? else c[q]? := fun q => by
                        have := spliced_get (l := c.toList) (xs := ds) (off := len * i.size) (by simpa using hfit2) q
                        simpa using this
                      have mono : s.le { fz := s.fz, loc := (s.setLoc id (.row (ver + 65536) (some bb) c.size)).loc, defs := s.defs } := ⟨fun _ _ _ h => h, fun j l hj => by
                        by_cases e1 : j = id
                        · subst e1
                          rw [h1] at hj; cases hj
                          exact ⟨.row (ver + 65536) (some bb) c.size, by simp [Sim.setLoc], by simp only [Loc.le]; exact ⟨by omega, fun e => by omega⟩⟩
                        · exact ⟨l, by simp [Sim.setLoc, e1, hj], l.le_refl⟩, fun _ h => h⟩
                      have hmain := hm.setObj hidl (.row (ver + 65536) (ct ++ flat (ys0.map AV.untag))) (.row (ver + 65536) (some bb) c.size) h1 ⟨by omega, fun e => by omega⟩
                        (w.setRow bb (c.toList.take (len * i.size) ++ ds ++ c.toList.drop (len * i.size + ds.length)).toArray) s.fz (fun _ _ _ h => h) (fun _ _ _ => rfl)
                        (fun b' hb' _ => setRow_other w bb b' _ (fun e1 => hb' (by rw [e1]; rfl)))
                        (below_setRow hm.below hB _)
                        (fun b' hb' => ⟨by cases hb'; exact hB, .inl hb'⟩)
                        (fun b' q v hb' hq => by cases hb'; rw [h5 q] at hq; cases hq)
                        ⟨bb, _, e0, by rw [hsz2]; simp [Sim.setLoc], hnew, by rw [hsz2, List.length_append, hcl, hfl, ← hdl]; exact hfit2, fun q x v hx hv => by
                          rw [hgetC q] at hv
                          rw [List.getElem?_append] at hx
                          split at hx
                          · rename_i hlt
                            rw [hcl] at hlt
                            rw [if_neg (by omega)] at hv
                            exact ⟨(h4 q x v hx hv).1.mono mono, (h4 q x v hx hv).2⟩
                          · rename_i hge
                            rw [hcl] at hge hx
                            have hlt := (List.getElem?_eq_some_iff.1 hx).1
                            rw [hfl, ← hdl] at hlt
                            rw [if_pos ⟨by omega, by omega⟩] at hv
                            exact ⟨(hld.flat hx hv).1.mono mono, (hld.flat hx hv).2⟩, h5⟩ none
                      refine ⟨_, _, _, hmain.1, MR.put_of hm hmain.2, hrun, ?_⟩
                      exact .ref _ _ _ _ bb _ (ver + 65536) (some bb) c.size (by simp [Sim.setLoc]) (Nat.le_refl _) (fun _ => rfl) hfits (fun _ _ => by rw [unitOf_add, hun]; omega)
                    · -- elsewhere
                      have holds : ∀ q v, (c.toList.take (len * i.size))[q]? = some v → q < len * i.size ∧ c[q]? = some v := fun q v hq => by
                        rw [List.getElem?_take] at hq
                        split at hq
                        · rename_i hlt; exact ⟨hlt, by simpa using hq⟩
                        · cases hq
                      have hlen0 : (c.toList.take (len * i.size)).length = len * i.size := by
                        simp only [List.length_take, Array.length_toList]
                        omega
                      have hrun := run_append_grow (P := P) w t ty e i z he hi hz ⟨bb, 0, none⟩ len cap (c.toList.take (len * i.size)) hlen0 (fun j v hj => by rw [Addr.add_lit, Nat.zero_add, cell_of_row w bb j c e0 (0, 0) h2]; exact (holds j v hj).2) ⟨b2, o2, none⟩ ys0.length cap2 ds hdl hnews (by omega) h63 (growslice_fits (by omega) (by omega))
                      have hge := grownCap_ge w (len + ys0.length) cap e
                      have hd := (hm.drew).alloc (.cells ((c.toList.take (len * i.size) ++ ds).toArray ++ Builtin.zeroCells z.cells (grownCap w (len + ys0.length) cap e - (len + ys0.length))) e)
                      generalize hC : (c.toList.take (len * i.size) ++ ds).toArray ++ Builtin.zeroCells z.cells (grownCap w (len + ys0.length) cap e - (len + ys0.length)) = C at hrun hd
                      have hCs : C.size = grownCap w (len + ys0.length) cap e * i.size := by
                        rw [← hC]
                        simp only [Array.size_append, List.size_toArray, List.length_append, hlen0, hdl, size_zeroCells, hzs, ← Nat.add_mul]
                        congr 1; omega
                      have hCg : ∀ q, q < len * i.size + ds.length → C[q]? = if q < len * i.size then c[q]? else ds[q - len * i.size]? := fun q hq => by
                        rw [← hC, Array.getElem?_append_left (by simp only [List.size_toArray, List.length_append, hlen0]; exact hq)]
                        simp only [List.getElem?_toArray]
                        rw [List.getElem?_append, hlen0]
                        split
                        · rename_i hlt; rw [List.getElem?_take, if_pos hlt]; simp
                        · rfl
                      have hnew : (w.drew.alloc (.cells C e)).heap[w.heap.size]? = some (.cells C e (0, 0)) := heap_alloc_new w.drew _
                      have mono : s.le { fz := s.fz, loc := (s.setLoc id (.row (ver + 65536) (some w.heap.size) C.size)).loc, defs := s.defs } := ⟨fun _ _ _ h => h, fun j l hj => by
                        by_cases e1 : j = id
                        · subst e1
                          rw [h1] at hj; cases hj
                          exact ⟨.row (ver + 65536) (some w.heap.size) C.size, by simp [Sim.setLoc], by simp only [Loc.le]; exact ⟨by omega, fun e => by omega⟩⟩
                        · exact ⟨l, by simp [Sim.setLoc, e1, hj], l.le_refl⟩, fun _ h => h⟩
                      have hmain := hd.setObj hidl (.row (ver + 65536) (ct ++ flat (ys0.map AV.untag))) (.row (ver + 65536) (some w.heap.size) C.size) h1 ⟨by omega, fun e => by omega⟩
                        (w.drew.alloc (.cells C e)) s.fz (fun _ _ _ h => h) (fun _ _ _ => rfl) (fun _ _ _ => rfl) hd.below
                        (fun b' hb' => by
                          simp only [Loc.block, Option.some.injEq] at hb'
                          subst hb'
                          refine ⟨hm.below.size, .inr ⟨fun i' l' hl' hb' => ?_, by rw [hnew]; simp, hm.held_new⟩⟩
                          exact absurd (hm.block_lt hl' hb') (Nat.lt_irrefl _))
                        (fun b' q v hb' hq => hd.fz b' q v hq)
                        ⟨w.heap.size, C, e, by simp [Sim.setLoc], hnew, by rw [hCs, List.length_append, hcl, hfl, ← Nat.add_mul]; exact Nat.mul_le_mul_right _ hge, fun q x v hx hv => by
                          have hq := (List.getElem?_eq_some_iff.1 hx).1
                          rw [List.length_append, hcl, hfl, ← hdl] at hq
                          rw [hCg q hq] at hv
                          rw [List.getElem?_append, hcl] at hx
                          split at hx
                          · rename_i hlt
                            rw [if_pos hlt] at hv
                            exact ⟨(h4 q x v hx hv).1.mono mono, (h4 q x v hx hv).2⟩
                          · rename_i hge
                            rw [if_neg hge] at hv
                            exact ⟨(hld.flat hx hv).1.mono mono, (hld.flat hx hv).2⟩, fun o => hm.fz_new o⟩ none
                      refine ⟨_, _, .slice (some ⟨w.heap.size, 0, none⟩) (len + ys0.length) (grownCap w (len + ys0.length) cap e), hmain.1, MR.put_of hm hmain.2, ?_, ?_⟩
                      · rw [hrun, ← hC]; simp
                      · exact .ref _ _ _ _ w.heap.size _ (ver + 65536) (some w.heap.size) C.size (by simp [Sim.setLoc]) (Nat.le_refl _) (fun _ => rfl) hge (fun _ _ => by rw [unitOf_add, hun, hCs]; omega)
                  · cases h
                · cases h
          · cases h
        · cases h
      · cases hok
    · cases hok
  · cases hok

end
end Go.Am
namespace Go.Am
set_option linter.all false
open Go Go.RowKit

def vEq1 : EK → Value → Value → Option Bool
  | .b, .bool a, .bool b => some (a == b)
  | .i, .int k a, .int k' b => if k = k' then some (a == b) else none
  | .s, .string a, .string b => some (a.toList == b.toList)
  | _, _, _ => none

def vEq : List EK → List Value → List Value → Option Bool
  | [], [], [] => some true
  | k :: ks, x :: xs, y :: ys => match vEq1 k x y with
    | none => none
    | some b => match vEq ks xs ys with
      | none => none
      | some c => some (b && c)
  | _, _, _ => none

mutual
/-- The cells of a type whose values are compared cell by cell. -/
def eqShape (P : Program) : Nat → TypeId → Option (List EK)
  | 0, _ => none
  | d + 1, t =>
    match P.underlying t with
    | some .bool => if szOf P t = some 1 then some [.b] else none
    | some (.int _) => if szOf P t = some 1 then some [.i] else none
    | some .string => if szOf P t = some 1 then some [.s] else none
    | some (.struct fs) => if P.stoodInHeld t = false then
        match eqShapeFields P d fs.toList 0 with
        | some ks => if szOf P t = some ks.length then some ks else none
        | none => none
      else none
    | some (.array n e) => match eqShape P d e with
      | some ks => if szOf P t = some (n * ks.length) ∧ szOf P e = some ks.length ∧ 0 < ks.length then some ((List.replicate n ks).flatten) else none
      | none => none
    | _ => none
def eqShapeFields (P : Program) : Nat → List Field → Nat → Option (List EK)
  | _, [], _ => some []
  | 0, _ :: _, _ => none
  | d + 1, f :: fs, off =>
    if f.name ≠ "_" ∧ f.offset = off then
      match eqShape P d f.type with
      | some ks => if szOf P f.type = some ks.length ∧ 0 < ks.length then
          match eqShapeFields P d fs (off + ks.length) with
          | some rs => some (ks ++ rs)
          | none => none
        else none
      | none => none
    else none
end

section
variable {P : Program} {w0 : Base} {w : World} {s : Sim} {M : Mem}

theorem vEq_len : ∀ {ks : List EK} {xs ys : List Value} {r : Bool}, vEq ks xs ys = some r → xs.length = ks.length ∧ ys.length = ks.length := by
  intro ks
  induction ks with
  | nil => intro xs ys r h; cases xs <;> cases ys <;> simp_all [vEq]
  | cons k ks ih =>
    intro xs ys r h
    cases xs <;> cases ys <;> simp only [vEq] at h
    · cases h
    · cases h
    · cases h
    · split at h
      · cases h
      · split at h
        · cases h
        · rename_i e2
          have := ih e2
          simp [this]

theorem vEq_append : ∀ {ks rs : List EK} {xs ys : List Value} {r : Bool}, vEq (ks ++ rs) xs ys = some r →
    ∃ a b, vEq ks (xs.take ks.length) (ys.take ks.length) = some a ∧ vEq rs (xs.drop ks.length) (ys.drop ks.length) = some b ∧ r = (a && b) := by
  intro ks
  induction ks with
  | nil => intro rs xs ys r h; exact ⟨true, r, by simp [vEq], by simpa using h, by simp⟩
  | cons k ks ih =>
    intro rs xs ys r h
    cases xs <;> cases ys <;> simp only [List.cons_append, vEq] at h
    · cases h
    · cases h
    · cases h
    · split at h
      · cases h
      · rename_i b1 e1
        split at h
        · cases h
        · rename_i c e2
          simp only [Option.some.injEq] at h
          obtain ⟨a, b, h1, h2, rfl⟩ := ih e2
          refine ⟨b1 && a, b, by simp [vEq, e1, h1], by simpa using h2, ?_⟩
          rw [← h, Bool.and_assoc]

theorem vEq_one {k : EK} {xs ys : List Value} {r : Bool} (h : vEq [k] xs ys = some r) : ∃ x y, xs = [x] ∧ ys = [y] ∧ vEq1 k x y = some r := by
  obtain ⟨h1, h2⟩ := vEq_len h
  obtain ⟨x, rfl⟩ := List.length_eq_one_iff.1 h1
  obtain ⟨y, rfl⟩ := List.length_eq_one_iff.1 h2
  refine ⟨x, y, rfl, rfl, ?_⟩
  cases h3 : vEq1 k x y with
  | none => simp [vEq, h3] at h
  | some b => simp [vEq, h3] at h; rw [h]

def packV (g : Bool) (xs : List Value) : Value := if g then .agg xs.toArray else xs.headD undef

theorem part_packV {t : TypeId} {g : Bool} {n off : Nat} {cs : List Value} (hg : aggOf P t = some g) (hn : szOf P t = some n) (h1 : g = false → n = 1) (hl : off + n ≤ cs.length) :
    (part t cs.toArray off).run P w = .ok (packV g ((cs.drop off).take n)) w := by
  cases g with
  | true =>
    simp only [part, Sem.run_bind, run_isAgg hg, Result.andThen_ok, if_true, run_sizeOf hn, Sem.run_pure, packV]
    congr 2
    apply Array.ext'
    simp [List.extract_eq_take_drop]
  | false =>
    have h1 := h1 rfl
    subst h1
    have hlt : off < cs.length := by omega
    simp only [part, Sem.run_bind, run_isAgg hg, Result.andThen_ok, Bool.false_eq_true, if_false, packV, List.getElem?_toArray, List.getElem?_eq_getElem hlt, Sem.run_pure]
    congr 1
    have : (cs.drop off).take 1 = [cs[off]] := by
      rw [List.drop_eq_getElem_cons hlt]; rfl
    rw [this]; rfl

theorem eqShape_agg {d : Nat} {t : TypeId} {ks : List EK} (h : eqShape P d t = some ks) : ∃ g, aggOf P t = some g ∧ szOf P t = some ks.length ∧ (g = false → ks.length = 1) := by
  cases d with
  | zero => simp [eqShape] at h
  | succ d =>
    rw [eqShape] at h
    unfold aggOf
    split at h
    · rename_i hu; split at h
      · rename_i hs; simp only [Option.some.injEq] at h; subst h; exact ⟨false, by simp [hu], hs, fun _ => rfl⟩
      · cases h
    · rename_i k hu; split at h
      · rename_i hs; simp only [Option.some.injEq] at h; subst h; exact ⟨false, by simp [hu], hs, fun _ => rfl⟩
      · cases h
    · rename_i hu; split at h
      · rename_i hs; simp only [Option.some.injEq] at h; subst h; exact ⟨false, by simp [hu], hs, fun _ => rfl⟩
      · cases h
    · rename_i fs hu
      split at h
      · split at h
        · split at h
          · rename_i hs; simp only [Option.some.injEq] at h; subst h; exact ⟨true, by simp [hu], hs, fun e => by cases e⟩
          · cases h
        · cases h
      · cases h
    · rename_i n e hu
      split at h
      · rename_i ks' _
        split at h
        · rename_i hs; simp only [Option.some.injEq] at h; subst h
          exact ⟨true, by simp [hu], by rw [hs.1]; simp, fun e => by cases e⟩
        · cases h
      · cases h
    · cases h

theorem eqIn_run : ∀ (d : Nat),
    (∀ (d' : Nat) (t : TypeId) (ks : List EK) (g : Bool) (xs ys : List Value) (r : Bool), d ≤ d' → eqShape P d t = some ks → aggOf P t = some g → vEq ks xs ys = some r → (Op.equalIn d' t (packV g xs) (packV g ys)).run P w = .ok r w) ∧
    (∀ (d' : Nat) (fs : List Field) (off : Nat) (ks : List EK) (xs ys : List Value) (r : Bool), d ≤ d' → eqShapeFields P d fs off = some ks → vEq ks (xs.drop off) (ys.drop off) = some r → (Op.eqFields d' xs.toArray ys.toArray fs).run P w = .ok r w) := by
  intro d
  induction d with
  | zero =>
    refine ⟨fun d' t ks g xs ys r _ h => by simp [eqShape] at h, fun d' fs off ks xs ys r _ h hv => ?_⟩
    cases fs with
    | nil =>
      simp only [eqShapeFields, Option.some.injEq] at h; subst h
      generalize xs.drop off = a at hv
      generalize ys.drop off = b at hv
      cases a <;> cases b <;> simp [vEq] at hv
      subst hv
      simp [Op.eqFields]
    | cons f fs => simp [eqShapeFields] at h
  | succ d ih =>
    obtain ⟨ih1, ih2⟩ := ih
    refine ⟨fun d' t ks g xs ys r hd h hg hv => ?_, fun d' fs off ks xs ys r hd h hv => ?_⟩
    · obtain ⟨d', rfl⟩ : ∃ q, d' = q + 1 := ⟨d' - 1, by omega⟩
      have hd1 : d ≤ d' := by omega
      rw [eqShape] at h
      split at h
      · rename_i hu; split at h
        · simp only [Option.some.injEq] at h; subst h
          have : g = false := by simpa [aggOf, hu] using hg.symm
          subst this
          obtain ⟨x, y, rfl, rfl, h1⟩ := vEq_one hv
          cases x <;> cases y <;> first | (simp only [vEq1] at h1; cases h1; done) | skip
          simp only [vEq1, Option.some.injEq] at h1
          subst h1
          simpa [packV] using run_equalIn_bool' (P := P) w d' t _ _ hu
        · cases h
      · rename_i k hu; split at h
        · simp only [Option.some.injEq] at h; subst h
          have : g = false := by simpa [aggOf, hu] using hg.symm
          subst this
          obtain ⟨x, y, rfl, rfl, h1⟩ := vEq_one hv
          cases x <;> cases y <;> first | (simp only [vEq1] at h1; cases h1; done) | skip
          rename_i k1 a k2 b
          simp only [vEq1] at h1
          split at h1
          · rename_i hk
            subst hk
            simp only [Option.some.injEq] at h1
            subst h1
            simpa [packV] using run_equalIn_int (P := P) w d' t k1 k a b hu
          · cases h1
        · cases h
      · rename_i hu; split at h
        · simp only [Option.some.injEq] at h; subst h
          have : g = false := by simpa [aggOf, hu] using hg.symm
          subst this
          obtain ⟨x, y, rfl, rfl, h1⟩ := vEq_one hv
          cases x <;> cases y <;> first | (simp only [vEq1] at h1; cases h1; done) | skip
          simp only [vEq1, Option.some.injEq] at h1
          subst h1
          simpa [packV] using run_equalIn_string (P := P) w d' t _ _ hu
        · cases h
      · rename_i fs hu
        split at h
        · rename_i hst
          split at h
          · rename_i ks' hf
            split at h
            · simp only [Option.some.injEq] at h; subst h
              have : g = true := by simpa [aggOf, hu] using hg.symm
              subst this
              have hfo : P.fieldsOf t = fs := by simp [Program.fieldsOf, hu]
              simp only [packV, if_true]
              rw [run_equalIn_struct w d' t _ _ (by rw [hfo]; exact hu) hst, hfo]
              exact ih2 d' fs.toList 0 ks' xs ys r hd1 hf (by simpa using hv)
            · cases h
          · cases h
        · cases h
      · rename_i n e hu
        split at h
        · rename_i ks' hf
          split at h
          · rename_i hs
            simp only [Option.some.injEq] at h; subst h
            have : g = true := by simpa [aggOf, hu] using hg.symm
            subst this
            obtain ⟨ge, hge, hse, h1⟩ := eqShape_agg hf
            simp only [packV, if_true, Op.equalIn, Sem.run_bind, run_underlying hu, Result.andThen_ok, run_sizeOf hse]
            -- element by element
            have key : ∀ (m i : Nat) (r : Bool), vEq ((List.replicate m ks').flatten) (xs.drop (i * ks'.length)) (ys.drop (i * ks'.length)) = some r →
                ((forIn (List.range' i m 1) (none, ()) fun i (_ : Option Bool × Unit) => do
                    let a ← part e xs.toArray (i * ks'.length)
                    let b ← part e ys.toArray (i * ks'.length)
                    let q ← Op.equalIn d' e a b
                    if (!q) = true then pure (ForInStep.done (some false, ())) else pure (ForInStep.yield (none, ())) : Sem (Option Bool × Unit)).run P w = .ok (if r then none else some false, ()) w) := by
              intro m
              induction m with
              | zero =>
                intro i r hv
                simp only [List.replicate_zero, List.flatten_nil] at hv
                generalize xs.drop (i * ks'.length) = a at hv
                generalize ys.drop (i * ks'.length) = b at hv
                cases a <;> cases b <;> simp [vEq] at hv
                subst hv
                simp
              | succ m ihm =>
                intro i r hv
                have hlens := vEq_len hv
                simp only [List.length_drop, List.length_flatten, List.map_replicate, List.sum_replicate_nat] at hlens
                rw [List.replicate_succ, List.flatten_cons] at hv
                obtain ⟨a, b, q1, q2, rfl⟩ := vEq_append hv
                have hmul : (m + 1) * ks'.length = m * ks'.length + ks'.length := by rw [Nat.add_mul, Nat.one_mul]
                have hx := part_packV (P := P) (w := w) (off := i * ks'.length) (cs := xs) hge hse h1 (by omega)
                have hy := part_packV (P := P) (w := w) (off := i * ks'.length) (cs := ys) hge hse h1 (by omega)
                have he := ih1 d' e ks' ge _ _ a hd1 hf hge q1
                rw [List.range'_succ]
                simp only [List.forIn_cons, Sem.run_bind, hx, hy, he, Result.andThen_ok]
                cases a with
                | false => simp
                | true =>
                  simp only [Bool.not_true, Bool.false_eq_true, if_false, Sem.run_pure, Result.andThen_ok, Bool.true_and]
                  refine ihm (i + 1) b ?_
                  have e3 : (i + 1) * ks'.length = i * ks'.length + ks'.length := by rw [Nat.add_mul, Nat.one_mul]
                  rw [e3, ← List.drop_drop, ← List.drop_drop]
                  exact q2
            have hk := key n 0 r (by simpa using hv)
            rw [Std.Legacy.Range.forIn_eq_forIn_range']
            simp only [Std.Legacy.Range.size, Nat.sub_zero, Nat.add_sub_cancel, Nat.div_one]
            rw [hk]
            cases r <;> simp
          · cases h
        · cases h
      · cases h
    · cases fs with
      | nil =>
        simp only [eqShapeFields, Option.some.injEq] at h; subst h
        generalize xs.drop off = a at hv
        generalize ys.drop off = b at hv
        cases a <;> cases b <;> simp [vEq] at hv
        subst hv
        simp [Op.eqFields]
      | cons f fs =>
        simp only [eqShapeFields] at h
        split at h
        · rename_i hc
          obtain ⟨hname, rfl⟩ := hc
          split at h
          · rename_i ks' hf
            split at h
            · rename_i hsz
              split at h
              · rename_i rs hr
                simp only [Option.some.injEq] at h; subst h
                have hlens := vEq_len hv
                simp only [List.length_drop, List.length_append] at hlens
                obtain ⟨a, b, q1, q2, rfl⟩ := vEq_append hv
                obtain ⟨ge, hge, hse, h1⟩ := eqShape_agg hf
                have hx := part_packV (P := P) (w := w) (off := f.offset) (cs := xs) hge hse h1 (by omega)
                have hy := part_packV (P := P) (w := w) (off := f.offset) (cs := ys) hge hse h1 (by omega)
                have he := ih1 d' f.type ks' ge _ _ a (by omega) hf hge q1
                simp only [Op.eqFields, hname, ne_eq, not_false_eq_true, if_true, Sem.run_bind, hx, hy, he, Result.andThen_ok]
                cases a with
                | false => simp
                | true =>
                  simp only [Bool.not_true, Bool.false_eq_true, if_false, Bool.true_and]
                  exact ih2 d' fs (f.offset + ks'.length) rs xs ys b (by omega) hr (by simpa [List.drop_drop] using q2)
              · cases h
            · cases h
          · cases h
        · cases h

theorem eq1_vEq1 {k : EK} {x y : AV} {vx vy : Value} {r : Bool} (hx : VR s x vx) (hy : VR s y vy) (h : AV.eq1 k x y = some r) : vEq1 k vx vy = some r := by
  unfold AV.eq1 at h
  split at h
  · rw [hx.bool_inv, hy.bool_inv]; exact h
  · rw [hx.int_inv, hy.int_inv]; exact h
  · rw [hx.str_inv, hy.str_inv]; exact h
  · cases h

theorem eqCells_vEq : ∀ {ks : List EK} {xs ys : List AV} {vx vy : List Value} {r : Bool}, xs.length = vx.length → ys.length = vy.length → (∀ (i : Nat) (x : AV) (v : Value), xs[i]? = some x → vx[i]? = some v → VR s x v) →
    (∀ (i : Nat) (x : AV) (v : Value), ys[i]? = some x → vy[i]? = some v → VR s x v) → AV.eqCells ks xs ys = some r → vEq ks vx vy = some r := by
  intro ks
  induction ks with
  | nil =>
    intro xs ys vx vy r h1 h2 h3 h4 h
    cases xs <;> cases ys <;> simp only [AV.eqCells] at h
    · cases vx <;> cases vy <;> simp_all [vEq]
    · cases h
    · cases h
    · cases h
  | cons k ks ih =>
    intro xs ys vx vy r h1 h2 h3 h4 h
    cases xs <;> cases ys <;> simp only [AV.eqCells] at h
    · cases h
    · cases h
    · cases h
    · rename_i x xs y ys
      cases vx with
      | nil => simp at h1
      | cons u vx =>
        cases vy with
        | nil => simp at h2
        | cons v vy =>
          split at h
          · cases h
          · rename_i b e1
            split at h
            · cases h
            · rename_i c e2
              simp only [Option.some.injEq] at h
              subst h
              have g1 := eq1_vEq1 (h3 0 x u rfl rfl) (h4 0 y v rfl rfl) e1
              have g2 := ih (vx := vx) (vy := vy) (by simpa using h1) (by simpa using h2) (fun i x v hx hv => h3 (i + 1) x v (by simpa using hx) (by simpa using hv)) (fun i x v hx hv => h4 (i + 1) x v (by simpa using hx) (by simpa using hv)) e2
              simp [vEq, g1, g2]

theorem VR.packV {x : AV} {v : Value} (h : VR s x v) : v = Am.packV x.isAgg v.cells.toList := by
  cases h <;> simp [Am.packV, AV.isAgg, Value.cells]

theorem equal_run {t : TypeId} {d : Nat} {ks : List EK} {x y : AV} {vx vy : Value} {r : Bool} (hd : d ≤ 10000) (hs : eqShape P d t = some ks) (hg : aggOf P t = some x.isAgg) (hg2 : y.isAgg = x.isAgg) (hx : VR s x vx) (hy : VR s y vy)
    (h : AV.eqCells ks x.cells y.cells = some r) : (Op.equalIn 10000 t vx vy).run P w = .ok r w := by
  have h1 := hx.cells
  have h2 := hy.cells
  have hv := eqCells_vEq (s := s) (vx := vx.cells.toList) (vy := vy.cells.toList) (by simpa using h1.1) (by simpa using h2.1) (fun i x v hx hv => h1.2 i x v hx (by simpa using hv)) (fun i x v hx hv => h2.2 i x v hx (by simpa using hv)) h
  have := (eqIn_run (P := P) (w := w) d).1 10000 t ks x.isAgg _ _ r hd hs hg hv
  rwa [← hx.packV, ← hg2, ← hy.packV] at this

def okEQ (P : Program) (t : TypeId) (q : EQ) : Bool :=
  decide (eqShape P 20 t = some q.ks) && decide (aggOf P t = some q.ag)

theorem eqv_run {t : TypeId} {q : EQ} {x y : AV} {vx vy : Value} {r : Bool} (hq : okEQ P t q = true) (hx : VR s x vx) (hy : VR s y vy) (h : AV.eqv q x y = some r) : (Op.equalIn 10000 t vx vy).run P w = .ok r w := by
  simp only [okEQ, Bool.and_eq_true, decide_eq_true_eq] at hq
  unfold AV.eqv at h
  split at h
  · rename_i hc
    exact equal_run (d := 20) (by omega) hq.1 (by rw [hq.2, hc.1]) (by rw [hc.1, hc.2]) hx hy h
  · cases h

end
end Go.Am
