/- An abstract machine for the part of Go that this program uses: the runs of literals and of make. -/
import Derived.Test.YtdddcofggemnkaaAmOps4
import Derived.Laws.Tables
import Derived.Laws.MakeOwn
namespace Go.Am
set_option linter.all false
open Go Go.RowKit

/-- Cells that stand for cells. -/
structure CR (s : Sim) (xs : List AV) (cs : Array Value) : Prop where
  len : xs.length = cs.size
  get : ∀ (i : Nat) (x : AV) (v : Value), xs[i]? = some x → cs[i]? = some v → VR s x v ∧ one v = true

section
variable {P : Program} {w0 : Base} {w : World} {s : Sim} {M : Mem}

theorem foldl_put (off : Nat) : ∀ (l : List Value) (k : Nat) (cs : Array Value), off + k + l.length ≤ cs.size →
    ((l.zipIdx k).foldl (fun cs (p : Value × Nat) => cs.setIfInBounds (off + p.2) p.1) cs).size = cs.size ∧
    ∀ i, ((l.zipIdx k).foldl (fun cs (p : Value × Nat) => cs.setIfInBounds (off + p.2) p.1) cs)[i]? = if off + k ≤ i ∧ i < off + k + l.length then l[i - (off + k)]? else cs[i]? := by
  intro l
  induction l with
  | nil => intro k cs _; exact ⟨rfl, fun i => by simp; intro h1 h2; omega⟩
  | cons v l ih =>
    intro k cs h
    simp only [List.length_cons] at h
    simp only [List.zipIdx_cons, List.foldl_cons]
    obtain ⟨h1, h2⟩ := ih (k + 1) (cs.setIfInBounds (off + k) v) (by simp; omega)
    refine ⟨by rw [h1]; simp, fun i => ?_⟩
    rw [h2 i]
    simp only [List.length_cons]
    by_cases e : i = off + k
    · subst e
      rw [if_neg (by omega), if_pos (by omega)]
      simp [show off + k < cs.size by omega]
    · by_cases e2 : off + (k + 1) ≤ i ∧ i < off + (k + 1) + l.length
      · rw [if_pos e2, if_pos (by omega)]
        have : i - (off + k) = (i - (off + (k + 1))) + 1 := by omega
        rw [this, List.getElem?_cons_succ]
      · rw [if_neg e2, if_neg (by omega), Array.getElem?_setIfInBounds_ne (by omega)]

theorem putCells_eq (off : Nat) (v : Value) (cs : Array Value) : v.cells.zipIdx.foldl (fun cs (p : Value × Nat) => cs.setIfInBounds (off + p.2) p.1) cs =
    (v.cells.toList.zipIdx 0).foldl (fun cs (p : Value × Nat) => cs.setIfInBounds (off + p.2) p.1) cs := by
  rw [← Array.foldl_toList]
  simp

/-- Parts of a literal that stand for parts. -/
def PM (s : Sim) (place : Nat → Option (Nat × Nat)) : List (Nat × Value) → List (Nat × Nat × AV) → Prop
  | [], [] => True
  | (i, v) :: ps, (off, size, x) :: qs => place i = some (off, size) ∧ VR s x v ∧ PM s place ps qs
  | _, _ => False

theorem fill_ok {place : Nat → Option (Nat × Nat)} : ∀ {ps : List (Nat × Value)} {qs : List (Nat × Nat × AV)} {xs xs' : List AV} {cs : Array Value}, PM s place ps qs → CR s xs cs → fillParts xs qs = some xs' →
    ∃ cs', Instr.fill place cs ps = some cs' ∧ CR s xs' cs' := by
  intro ps
  induction ps with
  | nil =>
    intro qs xs xs' cs h hc hf
    cases qs with
    | nil => simp only [fillParts, Option.some.injEq] at hf; subst hf; exact ⟨cs, rfl, hc⟩
    | cons q qs => exact h.elim
  | cons p ps ih =>
    intro qs xs xs' cs h hc hf
    obtain ⟨i, v⟩ := p
    cases qs with
    | nil => exact h.elim
    | cons q qs =>
      obtain ⟨off, size, x⟩ := q
      obtain ⟨hp, hv, hr⟩ := h
      simp only [fillParts] at hf
      split at hf
      · rename_i hcond
        obtain ⟨h1, h2, h3⟩ := hcond
        obtain ⟨hl, hg⟩ := hv.cells
        have hone := hv.cells_one (solid_tuple h3)
        have hsz : v.cells.size = size := by omega
        have hcl := hc.len
        obtain ⟨g1, g2⟩ := foldl_put off v.cells.toList 0 cs (by simp; omega)
        have := ih (xs := setCells xs off x.cells) (xs' := xs') (cs := v.cells.zipIdx.foldl (fun cs (p : Value × Nat) => cs.setIfInBounds (off + p.2) p.1) cs) hr ⟨?_, ?_⟩ hf
        · obtain ⟨cs', e1, e2⟩ := this
          refine ⟨cs', ?_, e2⟩
          simp only [Instr.fill, hp]
          rw [if_neg (by simp; omega)]
          exact e1
        · rw [putCells_eq, g1, length_setCells (by omega)]; exact hcl
        · intro j y u hy hu
          rw [putCells_eq, g2 j] at hu
          rw [setCells_get (by omega)] at hy
          by_cases hin : off ≤ j ∧ j < off + x.cells.length
          · rw [if_pos hin] at hy
            rw [if_pos (by simp; omega)] at hu
            simp only [Nat.add_zero] at hu
            refine ⟨hg (j - off) y u hy (by simpa using hu), hone u (List.mem_of_getElem? hu)⟩
          · rw [if_neg hin] at hy
            rw [if_neg (by simp; omega)] at hu
            exact hc.get j y u hy hu
      · cases hf

theorem CR.of_okConsts {xs : List Value} {ys : List AV} (h : okConsts xs ys = true) : CR s ys xs.toArray := by
  obtain ⟨h1, h2, h3⟩ := okConsts_ok (s := s) h
  exact ⟨by simpa using h1, fun i x v hx hv => h3 i x v hx (by simpa using hv)⟩

theorem CR.agg {xs : List AV} {cs : Array Value} (h : CR s xs cs) : VR s (.agg xs) (.agg cs) := by
  have := VR.agg (s := s) xs cs.toList (by simpa using h.len) (fun v hv => by
    obtain ⟨i, hi, rfl⟩ := List.mem_iff_getElem.1 hv
    have hlt : i < xs.length := by rw [h.len]; simpa using hi
    exact (h.get i xs[i] _ (List.getElem?_eq_getElem hlt) (by rw [← Array.getElem?_toList]; exact List.getElem?_eq_getElem hi)).2)
    fun i x v hx hv => (h.get i x v hx (by simpa using hv)).1
  simpa using this

def placesOf (P : Program) (t : TypeId) : Option (Nat → Option (Nat × Nat)) :=
  match P.underlying t with
  | some (.array _ e) => (P.info? e).map fun ie => fun i => some (i * ie.size, ie.size)
  | some (.struct fields) => (fields.toList.mapM (fun f => (P.info? f.type).map fun i => (f.offset, i.size))).map fun places => (places.toArray[·]?)
  | _ => none

def okParts (place : Nat → Option (Nat × Nat)) : List (Nat × Operand) → List (Nat × Nat × Arg) → Bool
  | [], [] => true
  | (i, x) :: xs, (off, size, y) :: ys => (match place i with | some (o, z) => o == off && z == size | none => false) && okArg x y && okParts place xs ys
  | _, _ => false

theorem okParts_ok {place : Nat → Option (Nat × Nat)} {L : Env} {a : Act} (hL : LR s L a.tmps) : ∀ {xs : List (Nat × Operand)} {ys : List (Nat × Nat × Arg)} {vs : List (Nat × Nat × AV)}, okParts place xs ys = true → partArgs L ys = some vs →
    PM s place (xs.map fun (i, x) => (i, a.eval x)) vs := by
  intro xs
  induction xs with
  | nil =>
    intro ys vs h hv
    cases ys with
    | nil => simp only [partArgs, Option.some.injEq] at hv; subst hv; trivial
    | cons y ys => simp [okParts] at h
  | cons x xs ih =>
    intro ys vs h hv
    obtain ⟨i, x⟩ := x
    cases ys with
    | nil => simp [okParts] at h
    | cons y ys =>
      obtain ⟨off, size, y⟩ := y
      simp only [okParts, Bool.and_eq_true] at h
      simp only [partArgs] at hv
      split at hv
      · cases hv
      · rename_i v1 e1
        split at hv
        · cases hv
        · rename_i vs1 e2
          simp only [Option.some.injEq] at hv
          subst hv
          refine ⟨?_, (okArg_ok hL h.1.2 e1).untag1, ih h.2 e2⟩
          have := h.1.1
          split at this
          · rename_i o z hp
            simp only [Bool.and_eq_true, beq_iff_eq] at this
            obtain ⟨rfl, rfl⟩ := this
            exact hp
          · cases this

theorem build_run {t : TypeId} {zero cs : List AV} {place : Nat → Option (Nat × Nat)} {ps : List (Nat × Value)} {qs : List (Nat × Nat × AV)} (hz : okZero P t zero = true) (hpl : placesOf P t = some place) (hp : PM s place ps qs)
    (h : fillParts zero qs = some cs) : ∃ u, (Instr.build t ps.toArray).run P w = .ok u w ∧ VR s (.agg cs) u := by
  unfold okZero at hz
  split at hz
  · rename_i it hit
    split at hz
    · rename_i z hzz
      obtain ⟨cs', h1, h2⟩ := fill_ok hp (CR.of_okConsts hz) h
      simp only [Array.toArray_toList] at h1
      refine ⟨.agg cs', run_build w t _ cs' ?_, h2.agg⟩
      unfold placesOf at hpl
      unfold Program.built
      split at hpl
      · rename_i n e hu
        simp only [Option.map_eq_some_iff] at hpl
        obtain ⟨ie, hie, rfl⟩ := hpl
        simp only [hit, hu, hzz, hie]
        exact h1
      · rename_i fs hu
        simp only [Option.map_eq_some_iff] at hpl
        obtain ⟨places, hpls, rfl⟩ := hpl
        simp only [hit, hu, hzz, hpls]
        exact h1
      · cases hpl
    · cases hz
  · cases hz

theorem build_run_of {t : TypeId} {zero cs : List AV} {place : Nat → Option (Nat × Nat)} {ps : List (Nat × Value)} {qs : List (Nat × Nat × AV)} (hz : ∃ it z, P.info? t = some it ∧ it.zero = some z ∧ CR s zero z.cells.toList.toArray) (hpl : placesOf P t = some place) (hp : PM s place ps qs)
    (h : fillParts zero qs = some cs) : ∃ u, (Instr.build t ps.toArray).run P w = .ok u w ∧ VR s (.agg cs) u := by
  obtain ⟨it, z, hit, hzz, hcr⟩ := hz
  obtain ⟨cs', h1, h2⟩ := fill_ok hp hcr h
  simp only [Array.toArray_toList] at h1
  refine ⟨.agg cs', run_build w t _ cs' ?_, h2.agg⟩
  unfold placesOf at hpl
  unfold Program.built
  split at hpl
  · rename_i n e hu
    simp only [Option.map_eq_some_iff] at hpl
    obtain ⟨ie, hie, rfl⟩ := hpl
    simp only [hit, hu, hzz, hie]
    exact h1
  · rename_i fs hu
    simp only [Option.map_eq_some_iff] at hpl
    obtain ⟨places, hpls, rfl⟩ := hpl
    simp only [hit, hu, hzz, hpls]
    exact h1
  · cases hpl

theorem zero_cr {t : TypeId} {zero : List AV} (hz : okZero P t zero = true) : ∃ it z, P.info? t = some it ∧ it.zero = some z ∧ okConsts z.cells.toList zero = true := by
  unfold okZero at hz
  split at hz
  · rename_i it hit
    split at hz
    · rename_i z hzz; exact ⟨it, z, hit, hzz, hz⟩
    · cases hz
  · cases hz

theorem okConsts_get {xs : List Value} {ys : List AV} (h : okConsts xs ys = true) : ∀ {i : Nat} {y : AV}, ys[i]? = some y → ∃ x, xs[i]? = some x ∧ okConst1 x y = true := by
  induction xs generalizing ys with
  | nil => intro i y hy; cases ys with
    | nil => simp at hy
    | cons y ys => simp [okConsts] at h
  | cons x xs ih =>
    intro i y hy
    cases ys with
    | nil => simp [okConsts] at h
    | cons z zs =>
      simp only [okConsts, Bool.and_eq_true] at h
      cases i with
      | zero => simp only [List.getElem?_cons_zero, Option.some.injEq] at hy; subst hy; exact ⟨x, rfl, h.1⟩
      | succ i => exact ih h.2 (by simpa using hy)

/-- A struct one of whose nil slices may be appended to. -/
theorem buildT_cr {t : TypeId} {zero : List AV} (hz : okZero P t zero = true) {i : Nat} (hi : zero[i]? = some (.list .full 0 [])) {g : Tag} {k : Nat} (hv : VR s (.list g k []) (.slice none 0 0)) :
    ∃ it z, P.info? t = some it ∧ it.zero = some z ∧ CR s (zero.set i (.list g k [])) z.cells.toList.toArray := by
  obtain ⟨it, z, h1, h2, h3⟩ := zero_cr hz
  have hc : CR s zero z.cells.toList.toArray := CR.of_okConsts h3
  obtain ⟨x, hx, hok⟩ := okConsts_get h3 hi
  have hx0 : x = .slice none 0 0 := by
    cases x <;> simp only [okConst1] at hok <;> first | (cases hok; done) | skip
    simp only [Bool.and_eq_true, beq_iff_eq, Option.isNone_iff_eq_none] at hok
    obtain ⟨⟨⟨⟨h4, h5⟩, h6⟩, _⟩, _⟩ := hok
    rw [h4, h5, h6]
  refine ⟨it, z, h1, h2, by rw [List.length_set]; exact hc.len, fun j y v hy hv' => ?_⟩
  rw [List.getElem?_set] at hy
  split at hy
  · rename_i e
    subst e
    split at hy
    · simp only [Option.some.injEq] at hy
      subst hy
      have : v = .slice none 0 0 := by
        rw [List.getElem?_toArray, hx] at hv'
        rw [← hx0]; exact (Option.some.inj hv').symm
      subst this
      exact ⟨hv, rfl⟩
    · cases hy
  · exact hc.get j y v hy hv'

theorem length_rep (z : List AV) (n : Nat) : (rep z n).length = n * z.length := by
  induction n with
  | zero => simp [rep]
  | succ n ih => simp only [rep, List.length_append, ih]; rw [Nat.add_mul, Nat.one_mul, Nat.add_comm]

theorem rep_get (z : List AV) (n i : Nat) (hz : 0 < z.length) (h : i < n * z.length) : (rep z n)[i]? = z[i % z.length]? := by
  induction n generalizing i with
  | zero => simp at h
  | succ n ih =>
    simp only [rep]
    rw [List.getElem?_append]
    split
    · rename_i h1
      rw [Nat.mod_eq_of_lt h1]
    · rename_i h1
      have h2 : i - z.length < n * z.length := by
        have : (n + 1) * z.length = n * z.length + z.length := by rw [Nat.add_mul, Nat.one_mul]
        omega
      rw [ih _ h2]
      congr 1
      have : i = (i - z.length) + z.length := by omega
      rw [this, Nat.add_mod_right]
      congr 1
      omega

theorem CR.rep {z : List AV} {zc : Array Value} (h : CR s z zc) (n k : Nat) (hk : z.length = k) (h0 : 0 < k) : CR s (rep z n) ((Array.range (n * k)).map (zc[· % zc.size]!)) := by
  subst hk
  refine ⟨by simp [length_rep], fun i x v hx hv => ?_⟩
  have hi : i < n * z.length := by
    have := (List.getElem?_eq_some_iff.1 hx).1
    rwa [length_rep] at this
  rw [rep_get z n i h0 hi] at hx
  have hm : i % z.length < z.length := Nat.mod_lt _ h0
  have hm' : i % z.length < zc.size := by rw [← h.len]; exact hm
  refine h.get (i % z.length) x v hx ?_
  simp only [Array.getElem?_map, Array.getElem?_range, if_pos hi, Option.map_some, Option.some.injEq] at hv
  rw [← h.len] at hv
  rw [← hv, getElem!_pos zc _ hm', Array.getElem?_eq_getElem hm']

theorem length_toElems (k : Nat) : ∀ (n : Nat) (cs : List AV), (toElems k cs n).length = n := by
  intro n
  induction n with
  | zero => intro cs; rfl
  | succ n ih => intro cs; simp [toElems, ih]

theorem toElems_get (k : Nat) : ∀ (n i : Nat) (cs : List AV), i < n → (toElems k cs n)[i]? = some (if k = 1 then ((cs.drop (i * k)).head?).getD (.tuple []) else .agg ((cs.drop (i * k)).take k)) := by
  intro n
  induction n with
  | zero => intro i cs h; omega
  | succ n ih =>
    intro i cs h
    cases i with
    | zero => simp [toElems]
    | succ i =>
      simp only [toElems, List.getElem?_cons_succ]
      rw [ih i (cs.drop k) (by omega), List.drop_drop]
      have : k + i * k = (i + 1) * k := by rw [Nat.add_mul, Nat.one_mul, Nat.add_comm]
      rw [this]

theorem VR.one_cells {x : AV} {v : Value} (h : VR s x v) (h1 : Am.one v = true) : x.cells = [x] := by
  cases h <;> first | rfl | cases h1

/-- The elements of frozen cells. -/
theorem elems_list {cs : List AV} {c : Array Value} {k n b o : Nat} {g : Tag} (hk : 0 < k) (hc : ∀ (i : Nat) (x : AV) (v : Value), cs[i]? = some x → c[i]? = some v → VR s x v ∧ one v = true) (hl : n * k ≤ cs.length) (hl2 : n * k ≤ c.size)
    (hf : ∀ i v, i < n * k → c[i]? = some v → s.fz b (o + i) = some v) (cap : Nat) (hcap : n ≤ cap) (hown : ∀ t, g = .own t → o = 0) (ht : TagOk s g k n (some b) cap) :
    VR s (.list g k (toElems k cs n)) (.slice (some ⟨b, o, none⟩) n cap) := by
  have hlen := length_toElems k n cs
  have key : ∀ (i : Nat) (x : AV), (toElems k cs n)[i]? = some x → i < n ∧ x.cells.length = k ∧ ∀ (j : Nat) (y : AV), x.cells[j]? = some y → j < k ∧ cs[i * k + j]? = some y := by
    intro i x hx
    have hi : i < n := by rw [← hlen]; exact (List.getElem?_eq_some_iff.1 hx).1
    have hb : i * k + k ≤ n * k := by
      have : (i + 1) * k ≤ n * k := Nat.mul_le_mul_right _ hi
      rwa [Nat.add_mul, Nat.one_mul] at this
    rw [toElems_get k n i cs hi] at hx
    simp only [Option.some.injEq] at hx
    refine ⟨hi, ?_⟩
    by_cases h1 : k = 1
    · rw [if_pos h1] at hx
      have hlt : i * k < cs.length := by omega
      have e : (cs.drop (i * k)).head? = some cs[i * k] := by
        rw [List.head?_drop]; exact List.getElem?_eq_getElem hlt
      rw [e] at hx
      simp only [Option.getD_some] at hx
      obtain ⟨hv1, hv2⟩ := hc (i * k) cs[i * k] c[i * k] (List.getElem?_eq_getElem hlt) (Array.getElem?_eq_getElem (by omega))
      have hcell := hv1.one_cells hv2
      rw [← hx, hcell]
      refine ⟨by simp [h1], fun j y hy => ?_⟩
      cases j with
      | zero =>
        simp only [List.getElem?_cons_zero, Option.some.injEq] at hy
        subst hy
        exact ⟨hk, by rw [Nat.add_zero]; exact List.getElem?_eq_getElem hlt⟩
      | succ j => simp at hy
    · rw [if_neg h1] at hx
      subst hx
      refine ⟨by simp only [AV.cells, List.length_take, List.length_drop]; omega, fun j y hy => ?_⟩
      simp only [AV.cells, List.getElem?_take] at hy
      split at hy
      · rename_i hj
        rw [List.getElem?_drop] at hy
        exact ⟨hj, hy⟩
      · cases hy
  have := VR.list (s := s) g k (toElems k cs n) b o cap (fun i j => c.getD (i * k + j) undef) (by rw [hlen]; exact hcap) (fun i x hx => (key i x hx).2.1) (fun i x j y hx hy => ?_) (fun i x j y hx hy => ?_) hown (by rw [hlen]; exact ht)
  · rw [hlen] at this; exact this
  · obtain ⟨hi, _, hh⟩ := key i x hx
    obtain ⟨hj, hy'⟩ := hh j y hy
    have hb : i * k + k ≤ n * k := by
      have : (i + 1) * k ≤ n * k := Nat.mul_le_mul_right _ hi
      rwa [Nat.add_mul, Nat.one_mul] at this
    have hlt : i * k + j < c.size := by omega
    rw [Nat.add_assoc]
    refine hf (i * k + j) _ (by omega) ?_
    simp [Array.getD, hlt]
  · obtain ⟨hi, _, hh⟩ := key i x hx
    obtain ⟨hj, hy'⟩ := hh j y hy
    have hb : i * k + k ≤ n * k := by
      have : (i + 1) * k ≤ n * k := Nat.mul_le_mul_right _ hi
      rwa [Nat.add_mul, Nat.one_mul] at this
    have hlt : i * k + j < c.size := by omega
    have := (hc (i * k + j) y c[i * k + j] hy' (Array.getElem?_eq_getElem hlt)).1
    simpa [Array.getD, hlt] using this

end
end Go.Am
