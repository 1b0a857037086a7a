/- An abstract machine for the part of Go that this program uses: the runs of slices: literals, make, slicing, append. -/
import Derived.Test.YtdddcofggemnkaaAmOps5
namespace Go.Am
set_option linter.all false
open Go Go.RowKit

section
variable {P : Program} {w0 : Base} {w : World} {s : Sim} {M : Mem}

/-- New cells that nobody writes, as a slice without room. -/
theorem full_of_cells (hm : MR w0 s M w) {cs : List AV} {c : Array Value} {k n : Nat} (e : TypeId) (hk : 0 < k) (hcr : CR s cs c) (hl : cs.length = n * k) :
    ∃ s', s.le s' ∧ MR w0 s' M (w.alloc (.cells c e)) ∧ VR s' (.list .full k (toElems k cs n)) (.slice (some ⟨w.heap.size, 0, none⟩) n n) := by
  refine ⟨_, le_freeze_new hm (fun o => c[o]?), hm.allocFz c e _ fun o v ho => ⟨ho, ?_⟩, ?_⟩
  · have hlt : o < cs.length := by rw [hcr.len]; exact (Array.getElem?_eq_some_iff.1 ho).1
    exact (hcr.get o cs[o] v (List.getElem?_eq_getElem hlt) ho).2
  · refine elems_list (c := c) hk (fun i x v hx hv => ⟨(hcr.get i x v hx hv).1.mono (le_freeze_new hm _), (hcr.get i x v hx hv).2⟩) (by omega) (by have := hcr.len; omega) (fun i v hi hv => ?_) n (Nat.le_refl _) (fun t e => by cases e) rfl
    simp only [Sim.freeze, if_true, Nat.zero_add]
    exact hv

theorem ref_of_cells (hm : MR w0 s M w) {cs : List AV} {c : Array Value} {n : Nat} (e : TypeId) (hcr : CR s cs c) :
    ∃ s', s.le s' ∧ MR w0 s' (M.newRow cs).2 (w.alloc (.cells c e)) ∧ VR s' (.ref M.objs.length 0 0 n) (.slice (some ⟨w.heap.size, 0, none⟩) n n) := by
  obtain ⟨s', h1, h2, _, h3⟩ := newRow_run hm e cs c hcr.len.symm fun i x v hx hv => hcr.get i x v hx hv
  exact ⟨s', h1, h2, .ref _ 0 0 n w.heap.size n 0 (some w.heap.size) _ h3 (Nat.le_refl _) (fun _ => rfl) (Nat.le_refl _) (fun _ hu => absurd rfl hu)⟩

def okElems : List (Nat × Operand) → List (Nat × Arg) → Bool
  | [], [] => true
  | (i, x) :: xs, (j, y) :: ys => i == j && okArg x y && okElems xs ys
  | _, _ => false

theorem okElems_ok {k : Nat} {L : Env} {a : Act} (hL : LR s L a.tmps) : ∀ {xs : List (Nat × Operand)} {ys : List (Nat × Arg)} {vs : List (Nat × Nat × AV)}, okElems xs ys = true → elemArgs L k ys = some vs →
    PM s (fun i => some (i * k, k)) (xs.map fun (i, x) => (i, a.eval x)) vs := by
  intro xs
  induction xs with
  | nil =>
    intro ys vs h hv
    cases ys with
    | nil => simp only [elemArgs, Option.some.injEq] at hv; subst hv; trivial
    | cons y ys => simp [okElems] at h
  | cons x xs ih =>
    intro ys vs h hv
    obtain ⟨i, x⟩ := x
    cases ys with
    | nil => simp [okElems] at h
    | cons y ys =>
      obtain ⟨j, y⟩ := y
      simp only [okElems, Bool.and_eq_true, beq_iff_eq] at h
      simp only [elemArgs] at hv
      split at hv
      · cases hv
      · rename_i v1 e1
        split at hv
        · cases hv
        · rename_i vs1 e2
          simp only [Option.some.injEq] at hv
          subst hv
          exact ⟨by rw [h.1.1], (okArg_ok hL h.1.2 e1).untag, ih h.2 e2⟩

theorem buildSlice_run {t e : TypeId} {k n : Nat} {zero cs : List AV} {ps : List (Nat × Value)} {qs : List (Nat × Nat × AV)} (ht : P.underlying t = some (.slice e)) (hsz : szOf P e = some k) (hz : okZero P e zero = true)
    (hp : PM s (fun i => some (i * k, k)) ps qs) (hk : 0 < k) (hzl : zero.length = k) (hn : n * k ≤ 16777216) (h : fillParts (rep zero n) qs = some cs) :
    ∃ c, (Instr.buildSlice t n ps.toArray).run P w = .ok (.slice (some ⟨w.heap.size, 0, none⟩) n n) (w.alloc (.cells c e)) ∧ CR s cs c ∧ cs.length = n * k := by
  obtain ⟨z, hz1, hz2⟩ := run_zeroValue (w := w) hz
  have hz3 : CR s zero z.cells := by have := CR.of_okConsts (s := s) hz2; simpa using this
  obtain ⟨cs', h1, h2⟩ := fill_ok hp (hz3.rep n k hzl hk) h
  have hlen : cs.length = n * k := by
    have key : ∀ (qs : List (Nat × Nat × AV)) (a b : List AV), fillParts a qs = some b → b.length = a.length := by
      intro qs
      induction qs with
      | nil => intro a b h; simp only [fillParts, Option.some.injEq] at h; rw [h]
      | cons q qs ih =>
        intro a b h
        obtain ⟨o, z, v⟩ := q
        simp only [fillParts] at h
        split at h
        · rename_i hc
          rw [ih _ _ h, length_setCells (by omega)]
        · cases h
    rw [key _ _ _ h, length_rep, hzl]
  have h3 : ¬ (16777216 < n * k) := by omega
  refine ⟨cs', ?_, h2, hlen⟩
  by_cases h0 : n * k = 0
  · rw [h0] at h1
    simp only [Array.range_zero', List.map_toArray, List.map_nil, Array.map_empty] at h1
    simp [Instr.buildSlice, run_underlying ht, run_sizeOf hsz, h0, Array.range_zero', h1, newRow]
  · simp [Instr.buildSlice, run_underlying ht, run_sizeOf hsz, h0, hz1, h1, newRow, h3]

def okMake (P : Program) (t : TypeId) (k bytes : Nat) (zero : List AV) : Bool :=
  match P.underlying t with
  | some (.slice e) => match P.info? e with
    | some i => i.size == k && i.bytes == bytes && okZero P e zero
    | none => false
  | _ => false

theorem makeSlice_run {t : TypeId} {k bytes : Nat} {zero : List AV} {n : Int} (h : okMake P t k bytes zero = true) (h0 : 0 ≤ n) (hb : n * bytes ≤ room) (hr : n ≤ room) (hzl : zero.length = k) (hk : 0 < k) :
    ∃ c e, (Instr.makeSlice t (.int .i64 n) (.int .i64 n)).run P w = .ok (.slice (some ⟨w.heap.size, 0, none⟩) n.toNat n.toNat) (w.alloc (.cells c e)) ∧ CR s (rep zero n.toNat) c := by
  unfold okMake at h
  split at h
  · rename_i e he
    split at h
    · rename_i i hi
      simp only [Bool.and_eq_true, beq_iff_eq] at h
      obtain ⟨⟨rfl, rfl⟩, hz⟩ := h
      obtain ⟨z, hz1, hz2⟩ := run_zeroValue (w := w) hz
      have hz3 : CR s zero z.cells := by have := CR.of_okConsts (s := s) hz2; simpa using this
      have hiz : i.zero = some z := by
        unfold okZero at hz
        rw [hi] at hz
        cases hzz : i.zero with
        | none => simp [hzz] at hz
        | some z' =>
          simp only [zeroValue, Sem.run_bind, typeInfo, run_program, Result.andThen_ok, hi, Sem.run_pure, hzz, Result.ok.injEq] at hz1
          rw [hz1.1]
      unfold room at hb hr
      have := run_make (P := P) w t e i z he hi hiz .i64 .i64 n n h0 (Int.le_refl _) (by rw [Int.mul_comm]; omega) (by omega)
      exact ⟨_, e, this, by
        have := hz3.rep n.toNat i.size hzl hk
        exact this⟩
    · cases h
  · cases h

theorem toElems_rep (z : List AV) (k n : Nat) (hz : z.length = k) (hk : 0 < k) : toElems k (rep z n) n = List.replicate n (if k = 1 then (z.head?).getD (.tuple []) else .agg z) := by
  induction n with
  | zero => rfl
  | succ n ih =>
    simp only [toElems, rep, List.replicate_succ]
    have h1 : (z ++ rep z n).drop k = rep z n := by rw [← hz]; simp
    have h2 : (z ++ rep z n).take k = z := by rw [← hz]; simp
    have h3 : (z ++ rep z n).head? = z.head? := by
      cases z with
      | nil => simp at hz; omega
      | cons a b => rfl
    rw [h1, h2, h3, ih]

theorem bound_run {x : Option AV} {xv : Option Value} {d y r : Nat} (hx : (x = none ∧ xv = none) ∨ (∃ a b, x = some a ∧ xv = some b ∧ VR s a b)) (h : bound x d y = some r) :
    (x = none ∧ xv = none ∧ r = d) ∨ ∃ k i, xv = some (.int k i) ∧ 0 ≤ i ∧ i ≤ y ∧ r = i.toNat ∧ ∀ code, (Instr.sliceBound (.int k i) y code).run P w = .ok r w := by
  rcases hx with ⟨rfl, rfl⟩ | ⟨a, b, rfl, rfl, hab⟩
  · simp only [bound, Option.some.injEq] at h
    exact .inl ⟨rfl, rfl, h.symm⟩
  · right
    unfold bound at h
    split at h
    · rename_i e; cases e
    · rename_i k i e
      simp only [Option.some.injEq] at e
      subst e
      split at h
      · rename_i hc
        simp only [Option.some.injEq] at h
        subst h
        rw [hab.int_inv]
        exact ⟨k, i, rfl, hc.1, hc.2, rfl, fun code => by simp [Instr.sliceBound, asIntOf, hc]⟩
      · cases h
    · cases h

theorem sliceBounds_run {lo hi : Option AV} {lov hiv : Option Value} {len cap l h : Nat} {b : Bool} (hlo : (lo = none ∧ lov = none) ∨ (∃ a b, lo = some a ∧ lov = some b ∧ VR s a b)) (hhi : (hi = none ∧ hiv = none) ∨ (∃ a b, hi = some a ∧ hiv = some b ∧ VR s a b))
    (hc : len ≤ cap) (h1 : bound hi len len = some h) (h2 : bound lo 0 h = some l) : (Instr.sliceBounds b len cap lov hiv none).run P w = .ok (l, h, cap) w ∧ l ≤ h ∧ h ≤ len := by
  rcases bound_run (P := P) (w := w) hhi h1 with ⟨_, rfl, rfl⟩ | ⟨k, i, rfl, g0, g1, rfl, _⟩
  · rcases bound_run (P := P) (w := w) hlo h2 with ⟨_, rfl, rfl⟩ | ⟨k, i, rfl, g0, g1, rfl, g2⟩
    · exact ⟨by simp [Instr.sliceBounds], Nat.zero_le _, Nat.le_refl _⟩
    · exact ⟨by simp [Instr.sliceBounds, g2], by omega, Nat.le_refl _⟩
  · have e : ∀ code, (Instr.sliceBound (.int k i) cap code).run P w = .ok i.toNat w := fun code => by
      simp only [Instr.sliceBound, asIntOf, Sem.run_bind, Sem.run_pure, Result.andThen_ok]
      rw [if_pos ⟨g0, by omega⟩]
      rfl
    rcases bound_run (P := P) (w := w) hlo h2 with ⟨_, rfl, rfl⟩ | ⟨k', i', rfl, g0', g1', rfl, g2⟩
    · exact ⟨by simp [Instr.sliceBounds, e], Nat.zero_le _, by omega⟩
    · exact ⟨by simp [Instr.sliceBounds, e, g2], by omega, by omega⟩

def okSlice (P : Program) (t : TypeId) (k : Nat) (x : AV) : Bool :=
  match P.underlying t, x with
  | some .string, .str _ => true
  | some (.slice e), .list _ _ _ => okSize P e k
  | some (.slice e), .ref _ _ _ _ => okSize P e k
  | _, _ => false

def okSliceT (P : Program) (t : TypeId) (k : Nat) : Bool :=
  match P.underlying t with
  | some .string => k == 0
  | some (.slice e) => okSize P e k
  | _ => false

theorem slice_run {t : TypeId} {k : Nat} {x v : AV} {xv : Value} {lo hi : Option AV} {lov hiv : Option Value} (ht : okSliceT P t k = true) (hx : VR s x xv)
    (hlo : (lo = none ∧ lov = none) ∨ (∃ a b, lo = some a ∧ lov = some b ∧ VR s a b)) (hhi : (hi = none ∧ hiv = none) ∨ (∃ a b, hi = some a ∧ hiv = some b ∧ VR s a b)) (h : aSlice k x lo hi = some v) :
    ∃ u, (Instr.sliceAt t xv lov hiv none).run P w = .ok u w ∧ VR s v u := by
  unfold okSliceT at ht
  unfold aSlice at h
  split at h
  · rename_i b
    split at h
    · cases h
    · rename_i hh h1
      split at h
      · cases h
      · rename_i l h2
        split at h
        · rename_i hk0
          subst hk0
          simp only [Option.some.injEq] at h; subst h
          rw [hx.str_inv]
          obtain ⟨g1, g2, g3⟩ := sliceBounds_run (P := P) (w := w) (b := false) hlo hhi (Nat.le_refl b.size) h1 h2
          split at ht
          · rename_i hu
            exact ⟨_, by simp [Instr.sliceAt, Instr.slice, run_underlying hu, g1], .str _⟩
          · rename_i e hu
            exact absurd (okSize_some ht).2 (by omega)
          · cases ht
        · cases h
  · rename_i g k' xs
    split at h
    · cases h
    · rename_i hh h1
      split at h
      · cases h
      · rename_i l h2
        split at h
        · rename_i hk
          simp only [Option.some.injEq] at h; subst h
          obtain ⟨hk, hkpos⟩ := hk
          split at ht
          · exact absurd hkpos (by simp at ht; omega)
          · rename_i e hu
            obtain ⟨hsz, hk0⟩ := okSize_some ht
            cases hx with
            | nil _ _ htag =>
              simp only [List.length_nil] at h1
              obtain ⟨g1, g2, g3⟩ := sliceBounds_run (P := P) (w := w) (b := true) hlo hhi (Nat.le_refl 0) h1 h2
              have hl0 : l = 0 := by omega
              have hh0 : hh = 0 := by omega
              subst hl0; subst hh0
              exact ⟨.slice none 0 0, by simp [Instr.sliceAt, Instr.slice, run_underlying hu, g1, run_sizeOf hsz], by simpa using VR.nil .shared k' trivial⟩
            | void _ a =>
              simp only [List.length_nil] at h1
              obtain ⟨g1, g2, g3⟩ := sliceBounds_run (P := P) (w := w) (b := true) hlo hhi (Nat.le_refl 0) h1 h2
              have hl0 : l = 0 := by omega
              have hh0 : hh = 0 := by omega
              subst hl0; subst hh0
              exact ⟨.slice (some a) 0 0, by simp [Instr.sliceAt, Instr.slice, run_underlying hu, g1, run_sizeOf hsz], by simpa using VR.void k' a⟩
            | list _ _ _ b o cap vs hcap hkk hf hv hown htag =>
              obtain ⟨g1, g2, g3⟩ := sliceBounds_run (P := P) (w := w) (b := true) hlo hhi hcap h1 h2
              have hlen : ((xs.take hh).drop l).length = hh - l := by simp; omega
              have hkk' : k = k' ∨ xs = [] := hk
              have hget : ∀ (i : Nat) (y : AV), ((xs.take hh).drop l)[i]? = some y → xs[l + i]? = some y := fun i y hy => by
                rw [List.getElem?_drop, List.getElem?_take] at hy
                split at hy
                · exact hy
                · cases hy
              have hne : k = k' ∨ l = 0 := by
                rcases hkk' with h | h
                · exact .inl h
                · subst h; simp only [List.length_nil] at g3; right; omega
              have main : ∀ o', (k = k' → o' = o + l * k) → VR s (.list .shared k' ((xs.take hh).drop l)) (.slice (some ⟨b, o', none⟩) (hh - l) (cap - l)) := fun o' ho' => by
                have := VR.list (s := s) .shared k' ((xs.take hh).drop l) b o' (cap - l) (fun i j => vs (l + i) j) (by rw [hlen]; omega) (fun i y hy => hkk _ y (hget i y hy)) (fun i y j c hy hc => ?_) (fun i y j c hy hc => hv _ y j c (hget i y hy) hc) (fun t e => by cases e) trivial
                · rwa [hlen] at this
                · have h3 := hf _ y j c (hget i y hy) hc
                  rcases hkk' with h | h
                  · rw [ho' h, h]
                    have e3 : o + l * k' + i * k' + j = o + (l + i) * k' + j := by rw [Nat.add_mul]; omega
                    rw [e3]; exact h3
                  · subst h; simp at hy
              by_cases hml : cap = l
              · subst hml
                refine ⟨.slice (some ⟨b, o, none⟩) (hh - cap) (cap - cap), by simp [Instr.sliceAt, Instr.slice, run_underlying hu, g1, run_sizeOf hsz], ?_⟩
                have hemp : (xs.take hh).drop cap = [] := by
                  apply List.eq_nil_of_length_eq_zero; rw [hlen]; omega
                have e0 : hh - cap = 0 := by omega
                have := VR.list (s := s) .shared k' [] b o (cap - cap) vs (by simp) (by simp) (by simp) (by simp) (fun t e => by cases e) trivial
                rw [hemp, e0]; exact this
              · refine ⟨.slice (some ⟨b, o + l * k, none⟩) (hh - l) (cap - l), by simp [Instr.sliceAt, Instr.slice, run_underlying hu, g1, run_sizeOf hsz, hml, Addr.add_lit], main _ (fun _ => rfl)⟩
          · cases ht
        · cases h
  · rename_i id ver off len
    split at h
    · cases h
    · rename_i hh h1
      split at h
      · cases h
      · rename_i l h2
        split at h
        · rename_i hkpos
          simp only [Option.some.injEq] at h; subst h
          split at ht
          · exact absurd hkpos.1 (by simp at ht; omega)
          · rename_i e hu
            obtain ⟨hsz, hk0⟩ := okSize_some ht
            cases hx with
            | ref _ _ _ _ b cap ver' b' n hl hv hb hcap hz =>
              obtain ⟨g1, g2, g3⟩ := sliceBounds_run (P := P) (w := w) (b := true) hlo hhi hcap h1 h2
              have emp : ∀ o' c, VR s (.list .shared k []) (.slice (some ⟨b, o', none⟩) 0 c) := fun o' c =>
                VR.list (s := s) .shared k [] b o' c (fun _ _ => undef) (by simp) (by simp) (by simp) (by simp) (fun t e => by cases e) trivial
              by_cases hml : cap = l
              · subst hml
                have e0 : hh = cap := by omega
                refine ⟨.slice (some ⟨b, off, none⟩) (hh - cap) (cap - cap), by simp [Instr.sliceAt, Instr.slice, run_underlying hu, g1, run_sizeOf hsz], ?_⟩
                rw [if_pos e0, e0, Nat.sub_self]
                exact emp _ _
              · refine ⟨.slice (some ⟨b, off + l * k, none⟩) (hh - l) (cap - l), by simp [Instr.sliceAt, Instr.slice, run_underlying hu, g1, run_sizeOf hsz, hml, Addr.add_lit], ?_⟩
                by_cases e0 : hh = l
                · rw [if_pos e0, e0, Nat.sub_self]
                  exact emp _ _
                · rw [if_neg e0]
                  refine .ref _ _ _ _ b _ ver' b' n hl hv hb (by omega) fun e hu => ?_
                  have h5 := hz e hu
                  have hu2 : unitOf ver = k := by
                    rcases hkpos.2 with h | h
                    · exact absurd h hu
                    · exact h
                  rw [hu2] at h5 ⊢
                  have : l * k + (cap - l) * k = cap * k := by rw [← Nat.add_mul]; congr 1; omega
                  omega
          · cases ht
        · cases h
  · cases h

end
end Go.Am
