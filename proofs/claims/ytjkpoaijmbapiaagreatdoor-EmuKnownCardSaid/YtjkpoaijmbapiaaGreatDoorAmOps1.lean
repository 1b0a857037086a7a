/- An abstract machine for the part of Go that this program uses: the runs of the plain operations. -/
import Derived.Test.YtjkpoaijmbapiaaGreatDoorAmMem
import Derived.WalkKit
import Derived.Laws.Cells
import Derived.Laws.CopyOwn
import Derived.Laws.Tables
import Derived.Laws.MakeOwn
namespace Go.Am
set_option linter.all false
open Go Go.RowKit

/-- An operation runs, and what it leaves is as it is told. -/
def OpOk (P : Program) (w0 : Base) (s : Sim) (x : Sem Next) (w : World) (r : AV) (M' : Mem) : Prop :=
  ∃ s' w', s.le s' ∧ MR w0 s' M' w' ∧ ((∃ v, x.run P w = .ok (.value v) w' ∧ VR s' r v) ∨ (x.run P w = .ok .skip w' ∧ r = .tuple []))

section
variable {P : Program} {w0 : Base} {w : World} {s : Sim} {M : Mem}

theorem OpOk.of_value {x : Sem Next} {v : Value} {r : AV} (hm : MR w0 s M w) (h : x.run P w = .ok (.value v) w) (hv : VR s r v) : OpOk P w0 s x w r M :=
  ⟨s, w, .refl s, hm, .inl ⟨v, h, hv⟩⟩

theorem VR.bool_inv {b : Bool} {v : Value} (h : VR s (.bool b) v) : v = .bool b := by cases h; rfl
theorem VR.int_inv {k : IntKind} {n : Int} {v : Value} (h : VR s (.int k n) v) : v = .int k n := by cases h; rfl
theorem VR.str_inv {b : ByteArray} {v : Value} (h : VR s (.str b) v) : v = .string b := by cases h; rfl

def okBin (op : BinOp) (o : Op) (x y : Arg) : Bool :=
  match o with
  | .binOp op' _ a b _ => decide (op = op') && okArg a x && okArg b y
  | _ => false

/-- What is held against nil: a slice, a pointer, a map, a function, an interface. -/
def okNil (P : Program) (t : TypeId) (kd : Nat) (c : Value) : Bool :=
  match P.underlying t, c with
  | some (.slice _), .slice none 0 0 => kd == 0
  | some (.pointer _), .pointer none => kd == 1
  | some (.map _ _), .map none => kd == 2
  | some (.func _ _ _), .nilFunc => kd == 3
  | some (.interface _), .nilIface => kd == 4
  | _, _ => false

theorem nil_run {op : BinOp} {kd : Nat} {neg : Bool} {t : TypeId} {c : Value} {o1 : Operand} {x v : AV} {xv : Value} (h0 : op = if neg then .neq else .eql) (hc : okNil P t kd c = true) (hx : VR s x xv) (h : aIsNil kd neg x = some v) :
    ∃ b, v = .bool b ∧ (do eqGuard op t o1 (.const c) xv c; binOp op t xv c : Sem Value).run P w = .ok (.bool b) w := by
  unfold aIsNil at h
  split at h
  · cases h
  · rename_i b hb
    simp only [Option.some.injEq] at h
    subst h
    refine ⟨_, rfl, ?_⟩
    have key : ∀ (xv : Value), (eqGuard op t o1 (.const c) xv c).run P w = .ok () w → (Op.equalIn (9999 + 1) t xv c).run P w = .ok b w → (binOp op t xv c = if neg then (do pure (.bool (!(← Op.equal t xv c)))) else (do pure (.bool (← Op.equal t xv c)))) →
        (do eqGuard op t o1 (.const c) xv c; binOp op t xv c : Sem Value).run P w = .ok (.bool (if neg then !b else b)) w := by
      intro xv k1 k2 k3
      have k2' : (Op.equal t xv c).run P w = .ok b w := k2
      rw [Sem.run_bind, k1, k3]
      cases neg <;> simp [Sem.run_bind, k2']
    unfold okNil at hc
    split at hc
    · rename_i e hu
      obtain rfl : kd = 0 := by simpa using hc
      have done : ∀ a n m, b = a.isNone → (do eqGuard op t o1 (.const (.slice none 0 0)) (.slice a n m) (.slice none 0 0); binOp op t (.slice a n m) (.slice none 0 0) : Sem Value).run P w = .ok (.bool (if neg then !b else b)) w := by
        intro a n m hbb
        refine key _ (by cases op <;> rfl) ?_ (by subst h0; cases neg <;> rfl)
        rw [hbb]
        cases a <;> (rw [Op.equalIn]; simp [run_underlying hu])
      cases hx with
      | nil g k ht =>
        refine done _ _ _ ?_
        simp only [aNil] at hb
        split at hb
        · simpa using hb.symm
        · split at hb
          · rename_i h1
            rcases h1 with rfl | h1
            · exact absurd rfl ht
            · exact absurd rfl h1
          · cases hb
      | void g k a hg =>
        refine done _ _ _ ?_
        simp only [aNil] at hb
        split at hb
        · rename_i h1; subst h1; simp at hg
        · split at hb
          · simpa using hb.symm
          · cases hb
      | list g k xs b1 o cap vs hcap hk hf hv ho ht =>
        refine done _ _ _ ?_
        simp only [aNil] at hb
        split at hb
        · rename_i h1; subst h1; exact absurd ht (by simp [TagOk])
        · split at hb
          · simpa using hb.symm
          · cases hb
      | ref id ver off len b1 cap => exact done _ _ _ (by simpa [aNil] using hb.symm)
      | _ => simp [aNil] at hb
    · rename_i e hu
      obtain rfl : kd = 1 := by simpa using hc
      cases hx <;> first
        | (simp [aNil] at hb; done)
        | (refine key _ (by cases op <;> rfl) ?_ (by subst h0; cases neg <;> rfl)
           simp only [aNil, Option.some.injEq] at hb
           subst hb
           rw [Op.equalIn]; simp [run_underlying hu])
    · rename_i e e' hu
      obtain rfl : kd = 2 := by simpa using hc
      cases hx <;> first
        | (simp [aNil] at hb; done)
        | (refine key _ (by cases op <;> rfl) ?_ (by subst h0; cases neg <;> rfl)
           simp only [aNil, Option.some.injEq] at hb
           subst hb
           rw [Op.equalIn]; simp [run_underlying hu])
    · rename_i e e' e'' hu
      obtain rfl : kd = 3 := by simpa using hc
      cases hx <;> first
        | (simp [aNil] at hb; done)
        | (refine key _ (by cases op <;> rfl) ?_ (by subst h0; cases neg <;> rfl)
           simp only [aNil, Option.some.injEq] at hb
           subst hb
           rw [Op.equalIn]; simp [run_underlying hu])
    · rename_i e hu
      obtain rfl : kd = 4 := by simpa using hc
      cases hx <;> first
        | (simp [aNil] at hb; done)
        | (refine key _ (by subst h0; cases neg <;> cases o1 <;> rfl) ?_ (by subst h0; cases neg <;> rfl)
           simp only [aNil, Option.some.injEq] at hb
           subst hb
           rw [Op.equalIn]; simp [run_underlying hu])
    · cases hc

theorem aInt_run {op : BinOp} {k : IntKind} {x y : Int} {v : AV} (h : aInt op k x y = some v) (t : TypeId) : ∃ u, (binOp op t (.int k x) (.int k y)).run P w = .ok u w ∧ VR s v u := by
  cases op <;> simp only [aInt, aBits, aCmp] at h
  all_goals first | (cases h; done) | skip
  all_goals try split at h
  all_goals first
    | (cases h; done)
    | (simp only [Option.some.injEq] at h; subst h
       first
         | exact ⟨.int _ _, by simp_all [binOp, Op.intArith, Op.intDiv, Op.intBits, Op.intCmp], .int _ _⟩
         | exact ⟨.bool _, by simp_all [binOp, Op.intArith, Op.intDiv, Op.intBits, Op.intCmp], .bool _⟩)

theorem aStr_run {op : BinOp} {x y : ByteArray} {v : AV} (h : aStr op x y = some v) (t : TypeId) : ∃ u, (binOp op t (.string x) (.string y)).run P w = .ok u w ∧ VR s v u := by
  cases op <;> simp only [aStr] at h
  all_goals first | (cases h; done) | skip
  all_goals try split at h
  all_goals first
    | (cases h; done)
    | (simp only [Option.some.injEq] at h; subst h
       first
         | exact ⟨.bool _, by simp [binOp, Op.stringOp], .bool _⟩
         | (rename_i hle; exact ⟨.string _, by simp [binOp, Op.stringOp]; omega, .str _⟩))

theorem eqGuard_run {op : BinOp} {t : TypeId} {x y : Operand} {u v : Value} (h : (∃ k n, u = .int k n) ∨ (∃ b, u = .string b)) : (eqGuard op t x y u v).run P w = .ok () w := by
  rcases h with ⟨k, n, rfl⟩ | ⟨b, rfl⟩ <;> cases op <;> rfl

theorem aShift_run {op : BinOp} {k k' : IntKind} {x y : Int} {v : AV} (h : aShift op k x y = some v) (t : TypeId) : ∃ u, (binOp op t (.int k x) (.int k' y)).run P w = .ok u w ∧ VR s v u := by
  unfold aShift at h
  split at h
  · cases h
  · rename_i hy
    cases op <;> simp only at h
    all_goals first
      | (cases h; done)
      | (simp only [Option.some.injEq] at h; subst h
         exact ⟨.int _ _, by simp [binOp, Op.shift, hy], .int _ _⟩)

theorem aBin_run {op : BinOp} {x y v : AV} {a b : Value} (h : aBin op x y = some v) (hx : VR s x a) (hy : VR s y b) (t : TypeId) :
    (∃ u, (binOp op t a b).run P w = .ok u w ∧ VR s v u) ∧ ((∃ k n, a = .int k n) ∨ (∃ c, a = .string c)) := by
  unfold aBin at h
  split at h
  · rename_i k n k' n'
    rw [hx.int_inv, hy.int_inv]
    refine ⟨?_, .inl ⟨_, _, rfl⟩⟩
    split at h
    · exact aShift_run h t
    · exact aShift_run h t
    · split at h
      · rename_i e
        subst e
        exact aInt_run h t
      · cases h
  · rename_i c d
    rw [hx.str_inv, hy.str_inv]
    exact ⟨aStr_run h t, .inr ⟨_, rfl⟩⟩
  · cases h

theorem aUn_run {op : UnOp} {x v : AV} {a : Value} (h : aUn op x = some v) (hx : VR s x a) : ∃ u, (Op.unary op a).run P w = .ok u w ∧ VR s v u := by
  unfold aUn at h
  split at h
  · rw [hx.int_inv]
    split at h
    · simp only [Option.some.injEq] at h; subst h
      exact ⟨.int _ _, by simp [Op.unary, Op.intArith], .int _ _⟩
    · cases h
  · rw [hx.bool_inv]
    split at h
    · simp only [Option.some.injEq] at h; subst h
      exact ⟨.bool _, by simp [Op.unary], .bool _⟩
    · cases h
  · cases h

end
end Go.Am
namespace Go.Am
set_option linter.all false
open Go Go.RowKit

section
variable {P : Program} {w0 : Base} {w : World} {s : Sim} {M : Mem}

theorem okPart_cases {t : TypeId} {k : Option Nat} (h : okPart P t k = true) : (k = none ∧ aggOf P t = some false ∧ szOf P t = some 1) ∨ (∃ n, k = some n ∧ aggOf P t = some true ∧ szOf P t = some n ∧ 0 < n) := by
  unfold okPart at h
  split at h
  · rename_i n m h1 h2
    simp only [Bool.and_eq_true, beq_iff_eq, decide_eq_true_eq] at h
    obtain ⟨rfl, h3⟩ := h
    exact .inr ⟨n, rfl, h1, h2, h3⟩
  · rename_i n h1 h2
    simp only [beq_iff_eq] at h
    subst h
    exact .inl ⟨rfl, h1, h2⟩
  · cases h

theorem cellsAt_run (b o n : Nat) (vs : Nat → Value) (h : ∀ j, j < n → w.cell? ⟨b, o + j, none⟩ = some (vs j)) : (loadCells ⟨b, o, none⟩ n).run P w = .ok (((List.range n).map vs).toArray) w := by
  have := run_loadCells_list (P := P) (w := w) ⟨b, o, none⟩ ((List.range n).map vs) (fun j v hj => by
    simp only [List.getElem?_map, Option.map_eq_some_iff] at hj
    obtain ⟨i, hi, rfl⟩ := hj
    have h1 : i = j := by
      rw [List.getElem?_range] at hi
      · simpa using hi.symm
      · by_cases hlt : j < n
        · exact hlt
        · rw [List.getElem?_eq_none (by simp; omega)] at hi; cases hi
    subst h1
    have hlt : i < n := by
      by_cases hlt : i < n
      · exact hlt
      · rw [List.getElem?_eq_none (by simp; omega)] at hi; cases hi
    rw [Addr.add_lit]
    exact h i hlt)
  simpa using this

theorem loadVar_one {t : TypeId} {b o : Nat} {v : Value} (hg : aggOf P t = some false) (h : w.cell? ⟨b, o, none⟩ = some v) : (loadVar t ⟨b, o, none⟩).run P w = .ok v w := by
  simp [loadVar, run_isAgg hg, h]

theorem loadVar_agg {t : TypeId} {b o n : Nat} {vs : Nat → Value} (hg : aggOf P t = some true) (hn : szOf P t = some n) (h : ∀ j, j < n → w.cell? ⟨b, o + j, none⟩ = some (vs j)) :
    (loadVar t ⟨b, o, none⟩).run P w = .ok (.agg ((List.range n).map vs).toArray) w := by
  simp only [loadVar, Sem.run_bind, run_isAgg hg, Result.andThen_ok, if_true, run_sizeOf hn, cellsAt_run b o n vs h, Sem.run_pure]

theorem agg_of_cells {n : Nat} {xs : List AV} {vs : Nat → Value} (hl : xs.length = n) (h : ∀ (j : Nat) (c : AV), xs[j]? = some c → VR s c (vs j) ∧ one (vs j) = true) : VR s (.agg xs) (.agg ((List.range n).map vs).toArray) := by
  subst hl
  refine .agg xs _ (by simp) (fun v hv => ?_) fun i x v hx hv => ?_
  · simp only [List.mem_map, List.mem_range] at hv
    obtain ⟨j, hj, rfl⟩ := hv
    exact (h j xs[j] (List.getElem?_eq_getElem hj)).2
  · simp only [List.getElem?_map, Option.map_eq_some_iff] at hv
    obtain ⟨j, hj, rfl⟩ := hv
    have hlt : i < xs.length := (List.getElem?_eq_some_iff.1 hx).1
    rw [List.getElem?_range hlt] at hj
    simp only [Option.some.injEq] at hj
    subst hj
    exact (h i x hx).1

theorem load_run (hm : MR w0 s M w) {t : TypeId} {k : Option Nat} {p v : AV} {pv : Value} (hk : okPart P t k = true) (hp : VR s p pv) (h : M.load k p = some v) :
    ∃ u, (Instr.loadAt t pv).run P w = .ok u w ∧ VR s v u := by
  unfold Mem.load at h
  split at h
  · rename_i x
    cases hp with
    | cptr _ b o vs h0 hf hv =>
      rcases okPart_cases hk with ⟨rfl, ha, hs⟩ | ⟨n, rfl, ha, hs, hn⟩
      · have key : ∀ y, x.cells = [y] → ∃ u, (Instr.loadAt t (.pointer (some ⟨b, o, none⟩))).run P w = .ok u w ∧ VR s y u := by
          intro y hy
          have h1 := hf 0 y (by simp [hy])
          have h2 := hv 0 y (by simp [hy])
          exact ⟨vs 0, by simp only [Instr.loadAt, Instr.sureAddr, Sem.run_bind, Sem.run_pure, Result.andThen_ok]; exact loadVar_one ha (hm.fz _ _ _ (by simpa using h1)).1, h2⟩
        simp only at h
        split at h
        · rename_i y
          simp only [Option.some.injEq] at h; subst h
          exact key _ rfl
        · cases h
        · rename_i h1 h2
          simp only [Option.some.injEq] at h; subst h
          refine key x ?_
          cases x <;> first | rfl | (exact absurd rfl (h2 _))
      · simp only at h
        split at h
        · rename_i hl
          simp only [Option.some.injEq] at h; subst h
          refine ⟨.agg ((List.range n).map vs).toArray, ?_, agg_of_cells hl fun j c hc => ⟨hv j c hc, (hm.fz _ _ _ (hf j c hc)).2⟩⟩
          simp only [Instr.loadAt, Instr.sureAddr, Sem.run_bind, Sem.run_pure, Result.andThen_ok]
          refine loadVar_agg ha hs fun j hj => ?_
          exact (hm.fz _ _ _ (hf j x.cells[j] (List.getElem?_eq_getElem (by omega)))).1
        · cases h
  · rename_i id ver off
    split at h
    · rename_i ver' cs hid
      split at h
      · rename_i hver
        subst hver
        obtain ⟨b, c, e, h1, h2, h3, h4, h5⟩ := hm.obj id _ hid
        cases hp with
        | ptr _ _ _ b2 ver2 b' n hl hv hb =>
          rw [h1] at hl
          cases hl
          have := hb rfl
          simp only [Option.some.injEq] at this
          subst this
          have hcell : ∀ j, w.cell? ⟨b, j, none⟩ = c[j]? := fun j => cell_of_row w b j c e (0, 0) h2
          rcases okPart_cases hk with ⟨rfl, ha, hs⟩ | ⟨n, rfl, ha, hs, hn⟩
          · simp only [partOf] at h
            have hlt : off < c.size := by have := (List.getElem?_eq_some_iff.1 h).1; omega
            refine ⟨c[off], ?_, (h4 off v c[off] h (Array.getElem?_eq_getElem hlt)).1⟩
            simp only [Instr.loadAt, Instr.sureAddr, Sem.run_bind, Sem.run_pure, Result.andThen_ok]
            exact loadVar_one ha (by rw [hcell]; exact Array.getElem?_eq_getElem hlt)
          · simp only [partOf] at h
            split at h
            · rename_i hle
              simp only [Option.some.injEq] at h; subst h
              refine ⟨.agg ((List.range n).map fun j => c.getD (off + j) undef).toArray, ?_, agg_of_cells (by simp; omega) fun j x hx => ?_⟩
              · simp only [Instr.loadAt, Instr.sureAddr, Sem.run_bind, Sem.run_pure, Result.andThen_ok]
                refine loadVar_agg ha hs fun j hj => ?_
                rw [hcell, Array.getElem?_eq_getElem (by omega)]
                simp [Array.getD, show off + j < c.size by omega]
              · rw [List.getElem?_take] at hx
                split at hx
                · rename_i hj
                  rw [List.getElem?_drop] at hx
                  have hlt : off + j < c.size := by omega
                  have := h4 (off + j) x c[off + j] hx (Array.getElem?_eq_getElem hlt)
                  simpa [Array.getD, hlt] using this
                · cases hx
            · cases h
      · cases h
    · cases h
  · cases h

theorem setCells_get {cs xs : List AV} {off : Nat} (hle : off + xs.length ≤ cs.length) (i : Nat) :
    (setCells cs off xs)[i]? = if off ≤ i ∧ i < off + xs.length then xs[i - off]? else cs[i]? := by
  unfold setCells
  rw [List.append_assoc, List.getElem?_append]
  split
  · rename_i h
    simp only [List.length_take] at h
    rw [if_neg (by omega), List.getElem?_take, if_pos (by omega)]
  · rename_i h
    simp only [List.length_take] at h
    rw [List.getElem?_append]
    have hmin : min off cs.length = off := by omega
    split
    · rename_i h2
      simp only [List.length_take, hmin] at h2 ⊢
      rw [if_pos (by omega)]
    · rename_i h2
      simp only [List.length_take, hmin] at h2 ⊢
      rw [if_neg (by omega), List.getElem?_drop]
      congr 1
      omega

theorem length_setCells {cs xs : List AV} {off : Nat} (hle : off + xs.length ≤ cs.length) : (setCells cs off xs).length = cs.length := by
  simp [setCells]; omega

theorem one_iff (v : Value) : v.oneCell' = one v := by cases v <;> rfl

theorem spliced_get {α : Type} {l xs : List α} {off : Nat} (hle : off + xs.length ≤ l.length) (i : Nat) :
    (l.take off ++ xs ++ l.drop (off + xs.length))[i]? = if off ≤ i ∧ i < off + xs.length then xs[i - off]? else l[i]? := by
  rw [List.append_assoc, List.getElem?_append]
  split
  · rename_i h
    simp only [List.length_take] at h
    rw [if_neg (by omega), List.getElem?_take, if_pos (by omega)]
  · rename_i h
    simp only [List.length_take] at h
    rw [List.getElem?_append]
    have hmin : min off l.length = off := by omega
    split
    · rename_i h2
      simp only [List.length_take, hmin] at h2 ⊢
      rw [if_pos (by omega)]
    · rename_i h2
      simp only [List.length_take, hmin] at h2 ⊢
      rw [if_neg (by omega), List.getElem?_drop]
      congr 1
      omega

end
end Go.Am
namespace Go.Am
set_option linter.all false
open Go Go.RowKit

section
variable {P : Program} {w0 : Base} {w : World} {s : Sim} {M : Mem}

theorem MR.put_of (h : MR w0 s M w) {id : Nat} {o : AObj} {s' : Sim} {w' : World} (hm : MR w0 s' { objs := M.objs.set id o, bad := none } w') : MR w0 s' (M.put id o) w' :=
  bad_irrel hm _

theorem MR.putC_of (h : MR w0 s M w) {id : Nat} {o : AObj} {xs : List AV} {s' : Sim} {w' : World} (hm : MR w0 s' { objs := M.objs.set id o, bad := none } w') : MR w0 s' (M.putC id o xs) w' :=
  bad_irrel hm _

theorem okSize_some {t : TypeId} {k : Nat} (h : okSize P t k = true) : szOf P t = some k ∧ 0 < k := by
  unfold okSize at h
  split at h
  · rename_i n hn
    simp only [Bool.and_eq_true, beq_iff_eq, decide_eq_true_eq] at h
    obtain ⟨rfl, h2⟩ := h
    exact ⟨hn, h2⟩
  · cases h

theorem solid_tuple {x : AV} (h : x.solid = true) : ∀ xs, x ≠ .tuple xs := by
  rintro xs rfl; cases h

theorem store_run (hm : MR w0 s M w) {t : TypeId} {k : Nat} {p x : AV} {pv xv : Value} {M' : Mem} (hk : okSize P t k = true) (hp : VR s p pv) (hx : VR s x xv) (h : M.store k p x = some M') :
    ∃ w' s', (Instr.storeAt t pv xv).run P w = .ok () w' ∧ s.le s' ∧ MR w0 s' M' w' := by
  unfold Mem.store at h
  split at h
  · rename_i id ver off
    split at h
    · rename_i ver' cs hid
      split at h
      · rename_i hc
        obtain ⟨hver, hlen, hle, hsolid⟩ := hc
        subst hver
        simp only [Option.some.injEq] at h; subst h
        obtain ⟨b, c, e, h1, h2, h3, h4, h5⟩ := hm.obj id _ hid
        have hidl : id < M.objs.length := (List.getElem?_eq_some_iff.1 hid).1
        cases hp with
        | ptr _ _ _ b2 ver2 b' n hl hv hb =>
          rw [h1] at hl
          cases hl
          have := hb rfl
          simp only [Option.some.injEq] at this
          subst this
          obtain ⟨hsz, hk0⟩ := okSize_some hk
          obtain ⟨hcl, hcv⟩ := hx.cells
          have hone := hx.cells_one (solid_tuple hsolid)
          have hsize : xv.cells.size = k := by omega
          have hst := run_storeCells_at P b off e xv.cells.toList 0 c w h2 (by simp; omega) (fun v hv => by rw [one_iff]; exact hone v hv)
          simp only [Nat.add_zero] at hst
          have hrun : (Instr.storeAt t (.pointer (some ⟨b, off, none⟩)) xv).run P w = .ok () (w.setRow b (c.toList.take off ++ xv.cells.toList ++ c.toList.drop (off + xv.cells.toList.length)).toArray) := by
            simp only [Instr.storeAt, Instr.sureAddr, storeVar, Sem.run_bind, Sem.run_pure, Result.andThen_ok, run_sizeOf hsz]
            rw [if_neg (by simp; omega)]
            exact hst
          refine ⟨_, ?_, hrun, ?_⟩
          · exact { fz := s.fz, loc := (s.setLoc id (.row ver (some b) c.size)).loc, defs := s.defs }
          have hB : w0.heap.size ≤ b := hm.own id _ b h1 rfl
          have hmain := hm.setObj hidl (.row ver (setCells cs off x.cells)) (.row ver (some b) c.size) h1 (Loc.le_refl _)
            (w.setRow b (c.toList.take off ++ xv.cells.toList ++ c.toList.drop (off + xv.cells.toList.length)).toArray) s.fz (fun _ _ _ h => h) (fun _ _ _ => rfl)
            (fun b' hb' _ => setRow_other w b b' _ (fun e => hb' (by rw [e]; rfl))) (below_setRow hm.below hB _)
            (fun b' hb' => ⟨by cases hb'; exact hB, .inl hb'⟩)
            (fun b' o v hb' hf => by cases hb'; rw [h5 o] at hf; cases hf) ?_ none
          · exact ⟨hmain.1, hm.putC_of hmain.2⟩
          · have hsz2 : (c.toList.take off ++ xv.cells.toList ++ c.toList.drop (off + xv.cells.toList.length)).toArray.size = c.size := by
              simp only [List.size_toArray, List.length_append, List.length_take, List.length_drop, Array.length_toList]
              omega
            refine ⟨b, _, e, by rw [hsz2]; simp [Sim.setLoc], setRow_heap w b c _ e _ h2, ?_, fun i y v hy hv => ?_, h5⟩
            · have := length_setCells (cs := cs) (xs := x.cells) (off := off) (by omega)
              simp only [List.size_toArray, List.length_append, List.length_take, List.length_drop, Array.length_toList]
              omega
            · have hle2 : off + x.cells.length ≤ cs.length := by omega
              rw [setCells_get hle2] at hy
              have hv' : (c.toList.take off ++ xv.cells.toList ++ c.toList.drop (off + xv.cells.toList.length))[i]? = some v := by simpa using hv
              rw [spliced_get (by simp; omega)] at hv'
              have mono : s.le { fz := s.fz, loc := (s.setLoc id (.row ver (some b) c.size)).loc, defs := s.defs } := ⟨fun _ _ _ h => h, fun i l hl => ⟨l, by
                simp only [Sim.setLoc]
                split
                · rename_i e; subst e; rw [h1] at hl; exact hl
                · exact hl, l.le_refl⟩, fun _ h => h⟩
              by_cases hin : off ≤ i ∧ i < off + x.cells.length
              · rw [if_pos hin] at hy
                rw [if_pos (by simp; omega)] at hv'
                exact ⟨(hcv (i - off) y v hy (by simpa using hv')).mono mono, hone v (List.mem_of_getElem? hv')⟩
              · rw [if_neg hin] at hy
                rw [if_neg (by simp; omega)] at hv'
                exact ⟨(h4 i y v hy (by simpa using hv')).1.mono mono, (h4 i y v hy (by simpa using hv')).2⟩
      · cases h
    · cases h
  · cases h

/-- A new variable. -/
theorem newRow_run (hm : MR w0 s M w) (t : TypeId) (cs : List AV) (c : Array Value) (hl : c.size = cs.length)
    (hv : ∀ (i : Nat) (x : AV) (v : Value), cs[i]? = some x → c[i]? = some v → VR s x v ∧ one v = true) :
    ∃ s', s.le s' ∧ MR w0 s' (M.newRow cs).2 (w.alloc (.cells c t)) ∧ VR s' (M.newRow cs).1 (.pointer (some ⟨w.heap.size, 0, none⟩)) ∧
      s'.loc M.objs.length = some (.row 0 (some w.heap.size) c.size) :=
  ⟨_, le_setLoc_new hm _, hm.newRow cs c t hl hv, .ptr _ 0 0 w.heap.size 0 (some w.heap.size) _ (setLoc_self _ _ _) (Nat.le_refl _) (fun _ => rfl), setLoc_self _ _ _⟩

theorem run_newVar (t : TypeId) (v : Value) : (newVar t v).run P w = .ok ⟨w.heap.size, 0, none⟩ (w.alloc (.cells v.cells t)) := by
  simp [newVar, newRow]

theorem alloc_run (hm : MR w0 s M w) {t : TypeId} {cs : List AV} (h : okZero P t cs = true) :
    ∃ s' u, s.le s' ∧ MR w0 s' (M.newRow cs).2 u ∧ ∃ v, (Instr.alloc t true (.tuple #[])).run P w = .ok v u ∧ VR s' (M.newRow cs).1 v := by
  obtain ⟨z, hz, hc⟩ := run_zeroValue (w := w) h
  obtain ⟨h1, h2, h3⟩ := okConsts_ok (s := s) hc
  obtain ⟨s', hle, hmr, hv, _⟩ := newRow_run hm t cs z.cells (by simpa using h1.symm) fun i x v hx hv => h3 i x v hx (by simpa using hv)
  exact ⟨s', _, hle, hmr, _, by simp only [Instr.alloc, Sem.run_bind, hz, Result.andThen_ok, run_newVar, Sem.run_pure], hv⟩

theorem box_run (hm : MR w0 s M w) {t : TypeId} {x : AV} {xv : Value} (hx : VR s x xv) (hs : x.solid = true) :
    ∃ s' u, s.le s' ∧ MR w0 s' (M.newRow x.cells).2 u ∧ ∃ v, (Instr.box t xv).run P w = .ok v u ∧ VR s' (M.newRow x.cells).1 v := by
  obtain ⟨hl, hc⟩ := hx.cells
  have hone := hx.cells_one (solid_tuple hs)
  obtain ⟨s', hle, hmr, hv, _⟩ := newRow_run hm t x.cells xv.cells hl.symm fun i y v hy hv => ⟨hc i y v hy hv, hone v (by
    rw [← Array.getElem?_toList] at hv; exact List.mem_of_getElem? hv)⟩
  exact ⟨s', _, hle, hmr, _, by simp only [Instr.box, Sem.run_bind, run_newVar, Result.andThen_ok, Sem.run_pure], hv⟩

theorem makeMap_run (hm : MR w0 s M w) (t : TypeId) :
    ∃ s' u, s.le s' ∧ MR w0 s' (M.push (.map [])) u ∧ ∃ v, (Instr.makeMap t none).run P w = .ok v u ∧ VR s' (.map M.objs.length) v :=
  ⟨_, _, le_setLoc_new hm _, hm.newMap, .map (some w.heap.size), by simp [Instr.makeMap], .map _ _ (setLoc_self _ _ _)⟩

theorem tipNew_run (hm : MR w0 s M w) (k : Nat) : ∃ s', s.le s' ∧ MR w0 s' (M.push (.tip 0)) w ∧ VR s' (.list (.own M.objs.length) k []) (.slice none 0 0) :=
  ⟨_, le_setLoc_new hm _, hm.newTip k, .nil _ k ⟨0, k, none, 0, setLoc_self _ _ _, Nat.le_refl _, fun _ => ⟨rfl, rfl, .inl rfl⟩⟩⟩

end
end Go.Am
namespace Go.Am
set_option linter.all false
open Go Go.RowKit

section
variable {P : Program} {w0 : Base} {w : World} {s : Sim} {M : Mem}

theorem part_run {t : TypeId} {k : Option Nat} {xs : List AV} {cs : Array Value} {off : Nat} {v : AV} (hk : okPart P t k = true) (hx : VR s (.agg xs) (.agg cs)) (h : partOf xs off k = some v) :
    ∃ u, (part t cs off).run P w = .ok u w ∧ VR s v u := by
  cases hx with
  | agg _ vs hl ho hc =>
    rcases okPart_cases hk with ⟨rfl, ha, hs⟩ | ⟨n, rfl, ha, hs, hn⟩
    · simp only [partOf] at h
      have hlt : off < vs.length := by rw [← hl]; exact (List.getElem?_eq_some_iff.1 h).1
      refine ⟨vs[off], ?_, hc off v _ h (List.getElem?_eq_getElem hlt)⟩
      simp [part, run_isAgg ha, List.getElem?_eq_getElem hlt]
    · simp only [partOf] at h
      split at h
      · rename_i hle
        simp only [Option.some.injEq] at h; subst h
        refine ⟨.agg (vs.toArray.extract off (off + n)), ?_, ?_⟩
        · simp only [part, Sem.run_bind, run_isAgg ha, Result.andThen_ok, if_true, run_sizeOf hs, Sem.run_pure]
        · have e : vs.toArray.extract off (off + n) = ((vs.drop off).take n).toArray := by
            apply Array.ext'
            simp [List.extract_eq_take_drop]
          rw [e]
          refine .agg _ _ (by simp [hl]) (fun v hv => ho v (List.mem_of_mem_drop (List.mem_of_mem_take hv))) fun i x v hx hv => ?_
          rw [List.getElem?_take] at hx hv
          split at hx
          · rename_i hi
            rw [if_pos hi] at hv
            rw [List.getElem?_drop] at hx hv
            exact hc _ x v hx hv
          · cases hx
      · cases h

def okField (P : Program) (t : TypeId) (f off : Nat) (k : Option Nat) : Bool :=
  match P.underlying t with
  | some (.struct fs) => match fs[f]? with
    | some fd => fd.offset == off && okPart P fd.type k
    | none => false
  | _ => false

theorem field_run {t : TypeId} {f off : Nat} {k : Option Nat} {xs : List AV} {xv : Value} {v : AV} (hk : okField P t f off k = true) (hx : VR s (.agg xs) xv) (h : partOf xs off k = some v) :
    ∃ u, (Instr.field t xv f).run P w = .ok u w ∧ VR s v u := by
  unfold okField at hk
  split at hk
  · rename_i fs hfs
    split at hk
    · rename_i fd hfd
      simp only [Bool.and_eq_true, beq_iff_eq] at hk
      obtain ⟨rfl, hk⟩ := hk
      obtain ⟨cs, rfl⟩ : ∃ cs, xv = .agg cs := by cases hx; exact ⟨_, rfl⟩
      obtain ⟨u, h1, h2⟩ := part_run (w := w) hk hx h
      exact ⟨u, by simp [Instr.field, run_underlying hfs, hfd, asAgg, h1], h2⟩
    · cases hk
  · cases hk

def okFieldAddr (P : Program) (t : TypeId) (f off k : Nat) : Bool :=
  match P.underlying t with
  | some (.struct fs) => match fs[f]? with
    | some fd => fd.offset == off && okSize P fd.type k
    | none => false
  | _ => false

theorem fieldAddr_run {t : TypeId} {f off k : Nat} {x v : AV} {xv : Value} (hk : okFieldAddr P t f off k = true) (hx : VR s x xv) (h : aFieldAddr off k x = some v) :
    ∃ u, (Instr.fieldAt t xv f).run P w = .ok u w ∧ VR s v u := by
  unfold okFieldAddr at hk
  split at hk
  · rename_i fs hfs
    split at hk
    · rename_i fd hfd
      simp only [Bool.and_eq_true, beq_iff_eq] at hk
      obtain ⟨rfl, hk⟩ := hk
      obtain ⟨hsz, hk0⟩ := okSize_some hk
      have hrun : ∀ b o, (Instr.fieldAt t (.pointer (some ⟨b, o, none⟩)) f).run P w = .ok (.pointer (some ⟨b, o + fd.offset, none⟩)) w := fun b o => by
        simp only [Instr.fieldAt, Sem.run_bind, run_underlying hfs, Result.andThen_ok, hfd, Instr.sureAddr, Sem.run_pure, fieldPlace, run_sizeOf hsz]
        rw [if_neg (by omega)]
        simp [Addr.add_lit]
      unfold aFieldAddr at h
      split at h
      · rename_i y
        split at h
        · rename_i hle
          simp only [Option.some.injEq] at h; subst h
          cases hx with
          | cptr _ b o vs h0 hf hv =>
            refine ⟨_, hrun b o, ?_⟩
            have hg : ∀ j c, ((y.cells.drop fd.offset).take k)[j]? = some c → y.cells[fd.offset + j]? = some c := fun j c hc => by
              rw [List.getElem?_take] at hc
              split at hc
              · rwa [List.getElem?_drop] at hc
              · cases hc
            refine .cptr _ b (o + fd.offset) (fun j => vs (fd.offset + j)) ?_ (fun j c hc => ?_) fun j c hc => hv _ c (hg j c hc)
            · show 0 < ((y.cells.drop fd.offset).take k).length
              simp only [List.length_take, List.length_drop]; omega
            · rw [Nat.add_assoc]; exact hf _ c (hg j c hc)
        · cases h
      · rename_i id ver o
        simp only [Option.some.injEq] at h; subst h
        cases hx with
        | ptr _ _ _ b ver' b' n hl hv hb => exact ⟨_, hrun b o, .ptr _ _ _ b ver' b' n hl hv hb⟩
      · cases h
    · cases hk
  · cases hk

def okElem (P : Program) (t : TypeId) (k : Nat) : Bool :=
  match P.underlying t with
  | some (.slice e) => okSize P e k
  | _ => false

theorem okElem_some {t : TypeId} {k : Nat} (h : okElem P t k = true) : ∃ e, P.underlying t = some (.slice e) ∧ szOf P e = some k ∧ 0 < k := by
  unfold okElem at h
  split at h
  · rename_i e he
    exact ⟨e, he, okSize_some h⟩
  · cases h

theorem indexAddr_run {t : TypeId} {k : Nat} {x i v : AV} {xv iv : Value} (hk : okElem P t k = true) (hx : VR s x xv) (hi : VR s i iv) (h : aIndexAddr M k x i = some v) :
    ∃ u, (Instr.indexAt t xv iv).run P w = .ok u w ∧ VR s v u := by
  obtain ⟨e, he, hsz, hk0⟩ := okElem_some hk
  unfold aIndexAddr at h
  split at h
  · rename_i g k' xs ki n
    split at h
    · rename_i hc
      obtain ⟨h0, h1, rfl⟩ := hc
      split at h
      · rename_i y hy
        simp only [Option.some.injEq] at h; subst h
        cases hi
        cases hx with
        | nil => simp at hy
        | void => simp at hy
        | list _ _ _ b o cap vs hcap hkk hf hv hown ht =>
          refine ⟨.pointer (some ⟨b, o + n.toNat * k, none⟩), ?_, ?_⟩
          · simp [Instr.indexAt, asIntOf, run_underlying he, h0, h1, run_sizeOf hsz, Addr.add_lit]
          · refine .cptr y b _ (fun j => vs n.toNat j) ?_ (fun j c hc => hf _ y j c hy hc) fun j c hc => hv _ y j c hy hc
            rw [hkk _ _ hy]; exact hk0
      · cases h
    · cases h
  · rename_i id ver off len ki n
    split at h
    · rename_i hc
      obtain ⟨h0, h1⟩ := hc
      simp only [Option.some.injEq] at h; subst h
      cases hi
      cases hx with
      | ref _ _ _ _ b cap ver' b' nz hl hv hb hcap hz =>
        refine ⟨.pointer (some ⟨b, off + n.toNat * k, none⟩), ?_, .ptr _ _ _ b ver' b' nz hl hv hb⟩
        simp [Instr.indexAt, asIntOf, run_underlying he, h0, h1, run_sizeOf hsz, Addr.add_lit]
    · cases h
  · cases h

def okIndex (P : Program) (t : TypeId) (k : Option (Nat × Nat × Bool)) : Bool :=
  match P.underlying t, k with
  | some .string, none => true
  | some (.array n e), some (n', size, isAgg) => n == n' && szOf P e == some size && okPart P e (if isAgg then some size else none)
  | _, _ => false

theorem index_run {t : TypeId} {k : Option (Nat × Nat × Bool)} {x i v : AV} {xv iv : Value} (hk : okIndex P t k = true) (hx : VR s x xv) (hi : VR s i iv) (h : aIndex k x i = some v) :
    ∃ u, (Instr.index t xv iv).run P w = .ok u w ∧ VR s v u := by
  unfold okIndex at hk
  split at hk
  · rename_i ht
    unfold aIndex at h
    split at h
    · rename_i b ki n
      split at h
      · rename_i h0
        split at h
        · rename_i c hc
          simp only [Option.some.injEq] at h; subst h
          rw [hx.str_inv, hi.int_inv]
          exact ⟨_, by simp [Instr.index, asIntOf, run_underlying ht, h0, hc], .int _ _⟩
        · cases h
      · cases h
    · rename_i e; cases e
    · cases h
  · rename_i n e n' size isAgg ht
    simp only [Bool.and_eq_true, beq_iff_eq] at hk
    obtain ⟨⟨rfl, hsz⟩, hp⟩ := hk
    unfold aIndex at h
    split at h
    · rename_i e; cases e
    · rename_i len size' isAgg' xs ki m e
      simp only [Option.some.injEq, Prod.mk.injEq] at e
      obtain ⟨rfl, rfl, rfl⟩ := e
      split at h
      · rename_i hc
        obtain ⟨h0, h1⟩ := hc
        rw [hi.int_inv]
        obtain ⟨cs, rfl⟩ : ∃ cs, xv = .agg cs := by cases hx; exact ⟨_, rfl⟩
        obtain ⟨u, h2, h3⟩ := part_run (w := w) hp hx h
        exact ⟨u, by simp [Instr.index, asIntOf, run_underlying ht, h0, h1, run_sizeOf hsz, h2], h3⟩
      · cases h
    · cases h
  · cases hk

theorem nilCheck_run {x : AV} {xv : Value} (hx : VR s x xv) (h : (∃ a b c, x = .ptr a b c) ∨ (∃ y, x = .cptr y) ∨ (∃ g a b, x = .func g a b) ∨ (∃ id, x = .yield id)) (o : Oper) (y : Operand) (ho : o.op = .nilCheck y) (ρ : Operand → Value) (hy : ρ y = xv) :
    (execOp ρ o).run P w = .ok (.value xv) w := by
  rcases h with ⟨a, b, c, rfl⟩ | ⟨z, rfl⟩ | ⟨g, a, b, rfl⟩ | ⟨id, rfl⟩ <;> cases hx <;> simp [execOp, ho, hy]

theorem extract_run {xs : List AV} {i : Nat} {v : AV} {xv : Value} (hx : VR s (.tuple xs) xv) (h : xs[i]? = some v) : ∃ u, (Instr.extract xv i).run P w = .ok u w ∧ VR s v u := by
  cases hx with
  | tuple _ vs hl hc =>
    have hlt : i < vs.length := by rw [← hl]; exact (List.getElem?_eq_some_iff.1 h).1
    exact ⟨vs[i], by simp [Instr.extract, List.getElem?_eq_getElem hlt], hc i v _ h (List.getElem?_eq_getElem hlt)⟩

end
end Go.Am
namespace Go.Am
set_option linter.all false
open Go Go.RowKit

/-- Cells that stand for cells. -/
structure CR (s : Sim) (xs : List AV) (cs : Array Value) : Prop where
  len : xs.length = cs.size
  get : ∀ (i : Nat) (x : AV) (v : Value), xs[i]? = some x → cs[i]? = some v → VR s x v ∧ one v = true

section
variable {P : Program} {w0 : Base} {w : World} {s : Sim} {M : Mem}

theorem foldl_put (off : Nat) : ∀ (l : List Value) (k : Nat) (cs : Array Value), off + k + l.length ≤ cs.size →
    ((l.zipIdx k).foldl (fun cs (p : Value × Nat) => cs.setIfInBounds (off + p.2) p.1) cs).size = cs.size ∧
    ∀ i, ((l.zipIdx k).foldl (fun cs (p : Value × Nat) => cs.setIfInBounds (off + p.2) p.1) cs)[i]? = if off + k ≤ i ∧ i < off + k + l.length then l[i - (off + k)]? else cs[i]? := by
  intro l
  induction l with
  | nil => intro k cs _; exact ⟨rfl, fun i => by simp; intro h1 h2; omega⟩
  | cons v l ih =>
    intro k cs h
    simp only [List.length_cons] at h
    simp only [List.zipIdx_cons, List.foldl_cons]
    obtain ⟨h1, h2⟩ := ih (k + 1) (cs.setIfInBounds (off + k) v) (by simp; omega)
    refine ⟨by rw [h1]; simp, fun i => ?_⟩
    rw [h2 i]
    simp only [List.length_cons]
    by_cases e : i = off + k
    · subst e
      rw [if_neg (by omega), if_pos (by omega)]
      simp [show off + k < cs.size by omega]
    · by_cases e2 : off + (k + 1) ≤ i ∧ i < off + (k + 1) + l.length
      · rw [if_pos e2, if_pos (by omega)]
        have : i - (off + k) = (i - (off + (k + 1))) + 1 := by omega
        rw [this, List.getElem?_cons_succ]
      · rw [if_neg e2, if_neg (by omega), Array.getElem?_setIfInBounds_ne (by omega)]

theorem putCells_eq (off : Nat) (v : Value) (cs : Array Value) : v.cells.zipIdx.foldl (fun cs (p : Value × Nat) => cs.setIfInBounds (off + p.2) p.1) cs =
    (v.cells.toList.zipIdx 0).foldl (fun cs (p : Value × Nat) => cs.setIfInBounds (off + p.2) p.1) cs := by
  rw [← Array.foldl_toList]
  simp

/-- Parts of a literal that stand for parts. -/
def PM (s : Sim) (place : Nat → Option (Nat × Nat)) : List (Nat × Value) → List (Nat × Nat × AV) → Prop
  | [], [] => True
  | (i, v) :: ps, (off, size, x) :: qs => place i = some (off, size) ∧ VR s x v ∧ PM s place ps qs
  | _, _ => False

theorem fill_ok {place : Nat → Option (Nat × Nat)} : ∀ {ps : List (Nat × Value)} {qs : List (Nat × Nat × AV)} {xs xs' : List AV} {cs : Array Value}, PM s place ps qs → CR s xs cs → fillParts xs qs = some xs' →
    ∃ cs', Instr.fill place cs ps = some cs' ∧ CR s xs' cs' := by
  intro ps
  induction ps with
  | nil =>
    intro qs xs xs' cs h hc hf
    cases qs with
    | nil => simp only [fillParts, Option.some.injEq] at hf; subst hf; exact ⟨cs, rfl, hc⟩
    | cons q qs => exact h.elim
  | cons p ps ih =>
    intro qs xs xs' cs h hc hf
    obtain ⟨i, v⟩ := p
    cases qs with
    | nil => exact h.elim
    | cons q qs =>
      obtain ⟨off, size, x⟩ := q
      obtain ⟨hp, hv, hr⟩ := h
      simp only [fillParts] at hf
      split at hf
      · rename_i hcond
        obtain ⟨h1, h2, h3⟩ := hcond
        obtain ⟨hl, hg⟩ := hv.cells
        have hone := hv.cells_one (solid_tuple h3)
        have hsz : v.cells.size = size := by omega
        have hcl := hc.len
        obtain ⟨g1, g2⟩ := foldl_put off v.cells.toList 0 cs (by simp; omega)
        have := ih (xs := setCells xs off x.cells) (xs' := xs') (cs := v.cells.zipIdx.foldl (fun cs (p : Value × Nat) => cs.setIfInBounds (off + p.2) p.1) cs) hr ⟨?_, ?_⟩ hf
        · obtain ⟨cs', e1, e2⟩ := this
          refine ⟨cs', ?_, e2⟩
          simp only [Instr.fill, hp]
          rw [if_neg (by simp; omega)]
          exact e1
        · rw [putCells_eq, g1, length_setCells (by omega)]; exact hcl
        · intro j y u hy hu
          rw [putCells_eq, g2 j] at hu
          rw [setCells_get (by omega)] at hy
          by_cases hin : off ≤ j ∧ j < off + x.cells.length
          · rw [if_pos hin] at hy
            rw [if_pos (by simp; omega)] at hu
            simp only [Nat.add_zero] at hu
            refine ⟨hg (j - off) y u hy (by simpa using hu), hone u (List.mem_of_getElem? hu)⟩
          · rw [if_neg hin] at hy
            rw [if_neg (by simp; omega)] at hu
            exact hc.get j y u hy hu
      · cases hf

theorem CR.of_okConsts {xs : List Value} {ys : List AV} (h : okConsts xs ys = true) : CR s ys xs.toArray := by
  obtain ⟨h1, h2, h3⟩ := okConsts_ok (s := s) h
  exact ⟨by simpa using h1, fun i x v hx hv => h3 i x v hx (by simpa using hv)⟩

theorem CR.agg {xs : List AV} {cs : Array Value} (h : CR s xs cs) : VR s (.agg xs) (.agg cs) := by
  have := VR.agg (s := s) xs cs.toList (by simpa using h.len) (fun v hv => by
    obtain ⟨i, hi, rfl⟩ := List.mem_iff_getElem.1 hv
    have hlt : i < xs.length := by rw [h.len]; simpa using hi
    exact (h.get i xs[i] _ (List.getElem?_eq_getElem hlt) (by rw [← Array.getElem?_toList]; exact List.getElem?_eq_getElem hi)).2)
    fun i x v hx hv => (h.get i x v hx (by simpa using hv)).1
  simpa using this

def placesOf (P : Program) (t : TypeId) : Option (Nat → Option (Nat × Nat)) :=
  match P.underlying t with
  | some (.array _ e) => (P.info? e).map fun ie => fun i => some (i * ie.size, ie.size)
  | some (.struct fields) => (fields.toList.mapM (fun f => (P.info? f.type).map fun i => (f.offset, i.size))).map fun places => (places.toArray[·]?)
  | _ => none

def okParts (place : Nat → Option (Nat × Nat)) : List (Nat × Operand) → List (Nat × Nat × Arg) → Bool
  | [], [] => true
  | (i, x) :: xs, (off, size, y) :: ys => (match place i with | some (o, z) => o == off && z == size | none => false) && okArg x y && okParts place xs ys
  | _, _ => false

theorem okParts_ok {place : Nat → Option (Nat × Nat)} {L : Env} {a : Act} (hL : LR s L a.tmps) : ∀ {xs : List (Nat × Operand)} {ys : List (Nat × Nat × Arg)} {vs : List (Nat × Nat × AV)}, okParts place xs ys = true → partArgs L ys = some vs →
    PM s place (xs.map fun (i, x) => (i, a.eval x)) vs := by
  intro xs
  induction xs with
  | nil =>
    intro ys vs h hv
    cases ys with
    | nil => simp only [partArgs, Option.some.injEq] at hv; subst hv; trivial
    | cons y ys => simp [okParts] at h
  | cons x xs ih =>
    intro ys vs h hv
    obtain ⟨i, x⟩ := x
    cases ys with
    | nil => simp [okParts] at h
    | cons y ys =>
      obtain ⟨off, size, y⟩ := y
      simp only [okParts, Bool.and_eq_true] at h
      simp only [partArgs] at hv
      split at hv
      · cases hv
      · rename_i v1 e1
        split at hv
        · cases hv
        · rename_i vs1 e2
          simp only [Option.some.injEq] at hv
          subst hv
          refine ⟨?_, (okArg_ok hL h.1.2 e1).untag1, ih h.2 e2⟩
          have := h.1.1
          split at this
          · rename_i o z hp
            simp only [Bool.and_eq_true, beq_iff_eq] at this
            obtain ⟨rfl, rfl⟩ := this
            exact hp
          · cases this

theorem build_run {t : TypeId} {zero cs : List AV} {place : Nat → Option (Nat × Nat)} {ps : List (Nat × Value)} {qs : List (Nat × Nat × AV)} (hz : okZero P t zero = true) (hpl : placesOf P t = some place) (hp : PM s place ps qs)
    (h : fillParts zero qs = some cs) : ∃ u, (Instr.build t ps.toArray).run P w = .ok u w ∧ VR s (.agg cs) u := by
  unfold okZero at hz
  split at hz
  · rename_i it hit
    split at hz
    · rename_i z hzz
      obtain ⟨cs', h1, h2⟩ := fill_ok hp (CR.of_okConsts hz) h
      simp only [Array.toArray_toList] at h1
      refine ⟨.agg cs', run_build w t _ cs' ?_, h2.agg⟩
      unfold placesOf at hpl
      unfold Program.built
      split at hpl
      · rename_i n e hu
        simp only [Option.map_eq_some_iff] at hpl
        obtain ⟨ie, hie, rfl⟩ := hpl
        simp only [hit, hu, hzz, hie]
        exact h1
      · rename_i fs hu
        simp only [Option.map_eq_some_iff] at hpl
        obtain ⟨places, hpls, rfl⟩ := hpl
        simp only [hit, hu, hzz, hpls]
        exact h1
      · cases hpl
    · cases hz
  · cases hz

theorem build_run_of {t : TypeId} {zero cs : List AV} {place : Nat → Option (Nat × Nat)} {ps : List (Nat × Value)} {qs : List (Nat × Nat × AV)} (hz : ∃ it z, P.info? t = some it ∧ it.zero = some z ∧ CR s zero z.cells.toList.toArray) (hpl : placesOf P t = some place) (hp : PM s place ps qs)
    (h : fillParts zero qs = some cs) : ∃ u, (Instr.build t ps.toArray).run P w = .ok u w ∧ VR s (.agg cs) u := by
  obtain ⟨it, z, hit, hzz, hcr⟩ := hz
  obtain ⟨cs', h1, h2⟩ := fill_ok hp hcr h
  simp only [Array.toArray_toList] at h1
  refine ⟨.agg cs', run_build w t _ cs' ?_, h2.agg⟩
  unfold placesOf at hpl
  unfold Program.built
  split at hpl
  · rename_i n e hu
    simp only [Option.map_eq_some_iff] at hpl
    obtain ⟨ie, hie, rfl⟩ := hpl
    simp only [hit, hu, hzz, hie]
    exact h1
  · rename_i fs hu
    simp only [Option.map_eq_some_iff] at hpl
    obtain ⟨places, hpls, rfl⟩ := hpl
    simp only [hit, hu, hzz, hpls]
    exact h1
  · cases hpl

theorem zero_cr {t : TypeId} {zero : List AV} (hz : okZero P t zero = true) : ∃ it z, P.info? t = some it ∧ it.zero = some z ∧ okConsts z.cells.toList zero = true := by
  unfold okZero at hz
  split at hz
  · rename_i it hit
    split at hz
    · rename_i z hzz; exact ⟨it, z, hit, hzz, hz⟩
    · cases hz
  · cases hz

theorem okConsts_get {xs : List Value} {ys : List AV} (h : okConsts xs ys = true) : ∀ {i : Nat} {y : AV}, ys[i]? = some y → ∃ x, xs[i]? = some x ∧ okConst1 x y = true := by
  induction xs generalizing ys with
  | nil => intro i y hy; cases ys with
    | nil => simp at hy
    | cons y ys => simp [okConsts] at h
  | cons x xs ih =>
    intro i y hy
    cases ys with
    | nil => simp [okConsts] at h
    | cons z zs =>
      simp only [okConsts, Bool.and_eq_true] at h
      cases i with
      | zero => simp only [List.getElem?_cons_zero, Option.some.injEq] at hy; subst hy; exact ⟨x, rfl, h.1⟩
      | succ i => exact ih h.2 (by simpa using hy)

/-- A struct one of whose nil slices may be appended to. -/
theorem buildT_cr {t : TypeId} {zero : List AV} (hz : okZero P t zero = true) {i : Nat} (hi : zero[i]? = some (.list .full 0 [])) {g : Tag} {k : Nat} (hv : VR s (.list g k []) (.slice none 0 0)) :
    ∃ it z, P.info? t = some it ∧ it.zero = some z ∧ CR s (zero.set i (.list g k [])) z.cells.toList.toArray := by
  obtain ⟨it, z, h1, h2, h3⟩ := zero_cr hz
  have hc : CR s zero z.cells.toList.toArray := CR.of_okConsts h3
  obtain ⟨x, hx, hok⟩ := okConsts_get h3 hi
  have hx0 : x = .slice none 0 0 := by
    cases x <;> simp only [okConst1] at hok <;> first | (cases hok; done) | skip
    simp only [Bool.and_eq_true, beq_iff_eq, Option.isNone_iff_eq_none] at hok
    obtain ⟨⟨⟨⟨h4, h5⟩, h6⟩, _⟩, _⟩ := hok
    rw [h4, h5, h6]
  refine ⟨it, z, h1, h2, by rw [List.length_set]; exact hc.len, fun j y v hy hv' => ?_⟩
  rw [List.getElem?_set] at hy
  split at hy
  · rename_i e
    subst e
    split at hy
    · simp only [Option.some.injEq] at hy
      subst hy
      have : v = .slice none 0 0 := by
        rw [List.getElem?_toArray, hx] at hv'
        rw [← hx0]; exact (Option.some.inj hv').symm
      subst this
      exact ⟨hv, rfl⟩
    · cases hy
  · exact hc.get j y v hy hv'

theorem length_rep (z : List AV) (n : Nat) : (rep z n).length = n * z.length := by
  induction n with
  | zero => simp [rep]
  | succ n ih => simp only [rep, List.length_append, ih]; rw [Nat.add_mul, Nat.one_mul, Nat.add_comm]

theorem rep_get (z : List AV) (n i : Nat) (hz : 0 < z.length) (h : i < n * z.length) : (rep z n)[i]? = z[i % z.length]? := by
  induction n generalizing i with
  | zero => simp at h
  | succ n ih =>
    simp only [rep]
    rw [List.getElem?_append]
    split
    · rename_i h1
      rw [Nat.mod_eq_of_lt h1]
    · rename_i h1
      have h2 : i - z.length < n * z.length := by
        have : (n + 1) * z.length = n * z.length + z.length := by rw [Nat.add_mul, Nat.one_mul]
        omega
      rw [ih _ h2]
      congr 1
      have : i = (i - z.length) + z.length := by omega
      rw [this, Nat.add_mod_right]
      congr 1
      omega

theorem CR.rep {z : List AV} {zc : Array Value} (h : CR s z zc) (n k : Nat) (hk : z.length = k) (h0 : 0 < k) : CR s (rep z n) ((Array.range (n * k)).map (zc[· % zc.size]!)) := by
  subst hk
  refine ⟨by simp [length_rep], fun i x v hx hv => ?_⟩
  have hi : i < n * z.length := by
    have := (List.getElem?_eq_some_iff.1 hx).1
    rwa [length_rep] at this
  rw [rep_get z n i h0 hi] at hx
  have hm : i % z.length < z.length := Nat.mod_lt _ h0
  have hm' : i % z.length < zc.size := by rw [← h.len]; exact hm
  refine h.get (i % z.length) x v hx ?_
  simp only [Array.getElem?_map, Array.getElem?_range, if_pos hi, Option.map_some, Option.some.injEq] at hv
  rw [← h.len] at hv
  rw [← hv, getElem!_pos zc _ hm', Array.getElem?_eq_getElem hm']

theorem length_toElems (k : Nat) : ∀ (n : Nat) (cs : List AV), (toElems k cs n).length = n := by
  intro n
  induction n with
  | zero => intro cs; rfl
  | succ n ih => intro cs; simp [toElems, ih]

theorem toElems_get (k : Nat) : ∀ (n i : Nat) (cs : List AV), i < n → (toElems k cs n)[i]? = some (if k = 1 then ((cs.drop (i * k)).head?).getD (.tuple []) else .agg ((cs.drop (i * k)).take k)) := by
  intro n
  induction n with
  | zero => intro i cs h; omega
  | succ n ih =>
    intro i cs h
    cases i with
    | zero => simp [toElems]
    | succ i =>
      simp only [toElems, List.getElem?_cons_succ]
      rw [ih i (cs.drop k) (by omega), List.drop_drop]
      have : k + i * k = (i + 1) * k := by rw [Nat.add_mul, Nat.one_mul, Nat.add_comm]
      rw [this]

theorem VR.one_cells {x : AV} {v : Value} (h : VR s x v) (h1 : Am.one v = true) : x.cells = [x] := by
  cases h <;> first | rfl | cases h1

/-- The elements of frozen cells. -/
theorem elems_list {cs : List AV} {c : Array Value} {k n b o : Nat} {g : Tag} (hk : 0 < k) (hc : ∀ (i : Nat) (x : AV) (v : Value), cs[i]? = some x → c[i]? = some v → VR s x v ∧ one v = true) (hl : n * k ≤ cs.length) (hl2 : n * k ≤ c.size)
    (hf : ∀ i v, i < n * k → c[i]? = some v → s.fz b (o + i) = some v) (cap : Nat) (hcap : n ≤ cap) (hown : ∀ t, g = .own t → o = 0) (ht : TagOk s g k n (some b) cap) :
    VR s (.list g k (toElems k cs n)) (.slice (some ⟨b, o, none⟩) n cap) := by
  have hlen := length_toElems k n cs
  have key : ∀ (i : Nat) (x : AV), (toElems k cs n)[i]? = some x → i < n ∧ x.cells.length = k ∧ ∀ (j : Nat) (y : AV), x.cells[j]? = some y → j < k ∧ cs[i * k + j]? = some y := by
    intro i x hx
    have hi : i < n := by rw [← hlen]; exact (List.getElem?_eq_some_iff.1 hx).1
    have hb : i * k + k ≤ n * k := by
      have : (i + 1) * k ≤ n * k := Nat.mul_le_mul_right _ hi
      rwa [Nat.add_mul, Nat.one_mul] at this
    rw [toElems_get k n i cs hi] at hx
    simp only [Option.some.injEq] at hx
    refine ⟨hi, ?_⟩
    by_cases h1 : k = 1
    · rw [if_pos h1] at hx
      have hlt : i * k < cs.length := by omega
      have e : (cs.drop (i * k)).head? = some cs[i * k] := by
        rw [List.head?_drop]; exact List.getElem?_eq_getElem hlt
      rw [e] at hx
      simp only [Option.getD_some] at hx
      obtain ⟨hv1, hv2⟩ := hc (i * k) cs[i * k] c[i * k] (List.getElem?_eq_getElem hlt) (Array.getElem?_eq_getElem (by omega))
      have hcell := hv1.one_cells hv2
      rw [← hx, hcell]
      refine ⟨by simp [h1], fun j y hy => ?_⟩
      cases j with
      | zero =>
        simp only [List.getElem?_cons_zero, Option.some.injEq] at hy
        subst hy
        exact ⟨hk, by rw [Nat.add_zero]; exact List.getElem?_eq_getElem hlt⟩
      | succ j => simp at hy
    · rw [if_neg h1] at hx
      subst hx
      refine ⟨by simp only [AV.cells, List.length_take, List.length_drop]; omega, fun j y hy => ?_⟩
      simp only [AV.cells, List.getElem?_take] at hy
      split at hy
      · rename_i hj
        rw [List.getElem?_drop] at hy
        exact ⟨hj, hy⟩
      · cases hy
  have := VR.list (s := s) g k (toElems k cs n) b o cap (fun i j => c.getD (i * k + j) undef) (by rw [hlen]; exact hcap) (fun i x hx => (key i x hx).2.1) (fun i x j y hx hy => ?_) (fun i x j y hx hy => ?_) hown (by rw [hlen]; exact ht)
  · rw [hlen] at this; exact this
  · obtain ⟨hi, _, hh⟩ := key i x hx
    obtain ⟨hj, hy'⟩ := hh j y hy
    have hb : i * k + k ≤ n * k := by
      have : (i + 1) * k ≤ n * k := Nat.mul_le_mul_right _ hi
      rwa [Nat.add_mul, Nat.one_mul] at this
    have hlt : i * k + j < c.size := by omega
    rw [Nat.add_assoc]
    refine hf (i * k + j) _ (by omega) ?_
    simp [Array.getD, hlt]
  · obtain ⟨hi, _, hh⟩ := key i x hx
    obtain ⟨hj, hy'⟩ := hh j y hy
    have hb : i * k + k ≤ n * k := by
      have : (i + 1) * k ≤ n * k := Nat.mul_le_mul_right _ hi
      rwa [Nat.add_mul, Nat.one_mul] at this
    have hlt : i * k + j < c.size := by omega
    have := (hc (i * k + j) y c[i * k + j] hy' (Array.getElem?_eq_getElem hlt)).1
    simpa [Array.getD, hlt] using this

end
end Go.Am
namespace Go.Am
set_option linter.all false
open Go Go.RowKit

section
variable {P : Program} {w0 : Base} {w : World} {s : Sim} {M : Mem}

/-- New cells that nobody writes, as a slice without room. -/
theorem full_of_cells (hm : MR w0 s M w) {cs : List AV} {c : Array Value} {k n : Nat} (e : TypeId) (hk : 0 < k) (hcr : CR s cs c) (hl : cs.length = n * k) :
    ∃ s', s.le s' ∧ MR w0 s' M (w.alloc (.cells c e)) ∧ VR s' (.list .full k (toElems k cs n)) (.slice (some ⟨w.heap.size, 0, none⟩) n n) := by
  refine ⟨_, le_freeze_new hm (fun o => c[o]?), hm.allocFz c e _ fun o v ho => ⟨ho, ?_⟩, ?_⟩
  · have hlt : o < cs.length := by rw [hcr.len]; exact (Array.getElem?_eq_some_iff.1 ho).1
    exact (hcr.get o cs[o] v (List.getElem?_eq_getElem hlt) ho).2
  · refine elems_list (c := c) hk (fun i x v hx hv => ⟨(hcr.get i x v hx hv).1.mono (le_freeze_new hm _), (hcr.get i x v hx hv).2⟩) (by omega) (by have := hcr.len; omega) (fun i v hi hv => ?_) n (Nat.le_refl _) (fun t e => by cases e) rfl
    simp only [Sim.freeze, if_true, Nat.zero_add]
    exact hv

theorem ref_of_cells (hm : MR w0 s M w) {cs : List AV} {c : Array Value} {n : Nat} (e : TypeId) (hcr : CR s cs c) :
    ∃ s', s.le s' ∧ MR w0 s' (M.newRow cs).2 (w.alloc (.cells c e)) ∧ VR s' (.ref M.objs.length 0 0 n) (.slice (some ⟨w.heap.size, 0, none⟩) n n) := by
  obtain ⟨s', h1, h2, _, h3⟩ := newRow_run hm e cs c hcr.len.symm fun i x v hx hv => hcr.get i x v hx hv
  exact ⟨s', h1, h2, .ref _ 0 0 n w.heap.size n 0 (some w.heap.size) _ h3 (Nat.le_refl _) (fun _ => rfl) (Nat.le_refl _) (fun _ hu => absurd rfl hu)⟩

def okElems : List (Nat × Operand) → List (Nat × Arg) → Bool
  | [], [] => true
  | (i, x) :: xs, (j, y) :: ys => i == j && okArg x y && okElems xs ys
  | _, _ => false

theorem okElems_ok {k : Nat} {L : Env} {a : Act} (hL : LR s L a.tmps) : ∀ {xs : List (Nat × Operand)} {ys : List (Nat × Arg)} {vs : List (Nat × Nat × AV)}, okElems xs ys = true → elemArgs L k ys = some vs →
    PM s (fun i => some (i * k, k)) (xs.map fun (i, x) => (i, a.eval x)) vs := by
  intro xs
  induction xs with
  | nil =>
    intro ys vs h hv
    cases ys with
    | nil => simp only [elemArgs, Option.some.injEq] at hv; subst hv; trivial
    | cons y ys => simp [okElems] at h
  | cons x xs ih =>
    intro ys vs h hv
    obtain ⟨i, x⟩ := x
    cases ys with
    | nil => simp [okElems] at h
    | cons y ys =>
      obtain ⟨j, y⟩ := y
      simp only [okElems, Bool.and_eq_true, beq_iff_eq] at h
      simp only [elemArgs] at hv
      split at hv
      · cases hv
      · rename_i v1 e1
        split at hv
        · cases hv
        · rename_i vs1 e2
          simp only [Option.some.injEq] at hv
          subst hv
          exact ⟨by rw [h.1.1], (okArg_ok hL h.1.2 e1).untag, ih h.2 e2⟩

theorem buildSlice_run {t e : TypeId} {k n : Nat} {zero cs : List AV} {ps : List (Nat × Value)} {qs : List (Nat × Nat × AV)} (ht : P.underlying t = some (.slice e)) (hsz : szOf P e = some k) (hz : okZero P e zero = true)
    (hp : PM s (fun i => some (i * k, k)) ps qs) (hk : 0 < k) (hzl : zero.length = k) (hn : n * k ≤ 16777216) (h : fillParts (rep zero n) qs = some cs) :
    ∃ c, (Instr.buildSlice t n ps.toArray).run P w = .ok (.slice (some ⟨w.heap.size, 0, none⟩) n n) (w.alloc (.cells c e)) ∧ CR s cs c ∧ cs.length = n * k := by
  obtain ⟨z, hz1, hz2⟩ := run_zeroValue (w := w) hz
  have hz3 : CR s zero z.cells := by have := CR.of_okConsts (s := s) hz2; simpa using this
  obtain ⟨cs', h1, h2⟩ := fill_ok hp (hz3.rep n k hzl hk) h
  have hlen : cs.length = n * k := by
    have key : ∀ (qs : List (Nat × Nat × AV)) (a b : List AV), fillParts a qs = some b → b.length = a.length := by
      intro qs
      induction qs with
      | nil => intro a b h; simp only [fillParts, Option.some.injEq] at h; rw [h]
      | cons q qs ih =>
        intro a b h
        obtain ⟨o, z, v⟩ := q
        simp only [fillParts] at h
        split at h
        · rename_i hc
          rw [ih _ _ h, length_setCells (by omega)]
        · cases h
    rw [key _ _ _ h, length_rep, hzl]
  have h3 : ¬ (16777216 < n * k) := by omega
  refine ⟨cs', ?_, h2, hlen⟩
  by_cases h0 : n * k = 0
  · rw [h0] at h1
    simp only [Array.range_zero', List.map_toArray, List.map_nil, Array.map_empty] at h1
    simp [Instr.buildSlice, run_underlying ht, run_sizeOf hsz, h0, Array.range_zero', h1, newRow]
  · simp [Instr.buildSlice, run_underlying ht, run_sizeOf hsz, h0, hz1, h1, newRow, h3]

def okMake (P : Program) (t : TypeId) (k bytes : Nat) (zero : List AV) : Bool :=
  match P.underlying t with
  | some (.slice e) => match P.info? e with
    | some i => i.size == k && i.bytes == bytes && okZero P e zero
    | none => false
  | _ => false

theorem makeSlice_run {t : TypeId} {k bytes : Nat} {zero : List AV} {n : Int} (h : okMake P t k bytes zero = true) (h0 : 0 ≤ n) (hb : n * bytes ≤ room) (hr : n ≤ room) (hzl : zero.length = k) (hk : 0 < k) :
    ∃ c e, (Instr.makeSlice t (.int .i64 n) (.int .i64 n)).run P w = .ok (.slice (some ⟨w.heap.size, 0, none⟩) n.toNat n.toNat) (w.alloc (.cells c e)) ∧ CR s (rep zero n.toNat) c := by
  unfold okMake at h
  split at h
  · rename_i e he
    split at h
    · rename_i i hi
      simp only [Bool.and_eq_true, beq_iff_eq] at h
      obtain ⟨⟨rfl, rfl⟩, hz⟩ := h
      obtain ⟨z, hz1, hz2⟩ := run_zeroValue (w := w) hz
      have hz3 : CR s zero z.cells := by have := CR.of_okConsts (s := s) hz2; simpa using this
      have hiz : i.zero = some z := by
        unfold okZero at hz
        rw [hi] at hz
        cases hzz : i.zero with
        | none => simp [hzz] at hz
        | some z' =>
          simp only [zeroValue, Sem.run_bind, typeInfo, run_program, Result.andThen_ok, hi, Sem.run_pure, hzz, Result.ok.injEq] at hz1
          rw [hz1.1]
      unfold room at hb hr
      have := run_make (P := P) w t e i z he hi hiz .i64 .i64 n n h0 (Int.le_refl _) (by rw [Int.mul_comm]; omega) (by omega)
      exact ⟨_, e, this, by
        have := hz3.rep n.toNat i.size hzl hk
        exact this⟩
    · cases h
  · cases h

theorem toElems_rep (z : List AV) (k n : Nat) (hz : z.length = k) (hk : 0 < k) : toElems k (rep z n) n = List.replicate n (if k = 1 then (z.head?).getD (.tuple []) else .agg z) := by
  induction n with
  | zero => rfl
  | succ n ih =>
    simp only [toElems, rep, List.replicate_succ]
    have h1 : (z ++ rep z n).drop k = rep z n := by rw [← hz]; simp
    have h2 : (z ++ rep z n).take k = z := by rw [← hz]; simp
    have h3 : (z ++ rep z n).head? = z.head? := by
      cases z with
      | nil => simp at hz; omega
      | cons a b => rfl
    rw [h1, h2, h3, ih]

theorem bound_run {x : Option AV} {xv : Option Value} {d y r : Nat} (hx : (x = none ∧ xv = none) ∨ (∃ a b, x = some a ∧ xv = some b ∧ VR s a b)) (h : bound x d y = some r) :
    (x = none ∧ xv = none ∧ r = d) ∨ ∃ k i, xv = some (.int k i) ∧ 0 ≤ i ∧ i ≤ y ∧ r = i.toNat ∧ ∀ code, (Instr.sliceBound (.int k i) y code).run P w = .ok r w := by
  rcases hx with ⟨rfl, rfl⟩ | ⟨a, b, rfl, rfl, hab⟩
  · simp only [bound, Option.some.injEq] at h
    exact .inl ⟨rfl, rfl, h.symm⟩
  · right
    unfold bound at h
    split at h
    · rename_i e; cases e
    · rename_i k i e
      simp only [Option.some.injEq] at e
      subst e
      split at h
      · rename_i hc
        simp only [Option.some.injEq] at h
        subst h
        rw [hab.int_inv]
        exact ⟨k, i, rfl, hc.1, hc.2, rfl, fun code => by simp [Instr.sliceBound, asIntOf, hc]⟩
      · cases h
    · cases h

theorem sliceBounds_run {lo hi : Option AV} {lov hiv : Option Value} {len cap l h : Nat} {b : Bool} (hlo : (lo = none ∧ lov = none) ∨ (∃ a b, lo = some a ∧ lov = some b ∧ VR s a b)) (hhi : (hi = none ∧ hiv = none) ∨ (∃ a b, hi = some a ∧ hiv = some b ∧ VR s a b))
    (hc : len ≤ cap) (h1 : bound hi len len = some h) (h2 : bound lo 0 h = some l) : (Instr.sliceBounds b len cap lov hiv none).run P w = .ok (l, h, cap) w ∧ l ≤ h ∧ h ≤ len := by
  rcases bound_run (P := P) (w := w) hhi h1 with ⟨_, rfl, rfl⟩ | ⟨k, i, rfl, g0, g1, rfl, _⟩
  · rcases bound_run (P := P) (w := w) hlo h2 with ⟨_, rfl, rfl⟩ | ⟨k, i, rfl, g0, g1, rfl, g2⟩
    · exact ⟨by simp [Instr.sliceBounds], Nat.zero_le _, Nat.le_refl _⟩
    · exact ⟨by simp [Instr.sliceBounds, g2], by omega, Nat.le_refl _⟩
  · have e : ∀ code, (Instr.sliceBound (.int k i) cap code).run P w = .ok i.toNat w := fun code => by
      simp only [Instr.sliceBound, asIntOf, Sem.run_bind, Sem.run_pure, Result.andThen_ok]
      rw [if_pos ⟨g0, by omega⟩]
      rfl
    rcases bound_run (P := P) (w := w) hlo h2 with ⟨_, rfl, rfl⟩ | ⟨k', i', rfl, g0', g1', rfl, g2⟩
    · exact ⟨by simp [Instr.sliceBounds, e], Nat.zero_le _, by omega⟩
    · exact ⟨by simp [Instr.sliceBounds, e, g2], by omega, by omega⟩

def okSlice (P : Program) (t : TypeId) (k : Nat) (x : AV) : Bool :=
  match P.underlying t, x with
  | some .string, .str _ => true
  | some (.slice e), .list _ _ _ => okSize P e k
  | some (.slice e), .ref _ _ _ _ => okSize P e k
  | _, _ => false

def okSliceT (P : Program) (t : TypeId) (k : Nat) : Bool :=
  match P.underlying t with
  | some .string => k == 0
  | some (.slice e) => okSize P e k
  | _ => false

theorem slice_run {t : TypeId} {k : Nat} {x v : AV} {xv : Value} {lo hi : Option AV} {lov hiv : Option Value} (ht : okSliceT P t k = true) (hx : VR s x xv)
    (hlo : (lo = none ∧ lov = none) ∨ (∃ a b, lo = some a ∧ lov = some b ∧ VR s a b)) (hhi : (hi = none ∧ hiv = none) ∨ (∃ a b, hi = some a ∧ hiv = some b ∧ VR s a b)) (h : aSlice k x lo hi = some v) :
    ∃ u, (Instr.sliceAt t xv lov hiv none).run P w = .ok u w ∧ VR s v u := by
  unfold okSliceT at ht
  unfold aSlice at h
  split at h
  · rename_i b
    split at h
    · cases h
    · rename_i hh h1
      split at h
      · cases h
      · rename_i l h2
        split at h
        · rename_i hk0
          subst hk0
          simp only [Option.some.injEq] at h; subst h
          rw [hx.str_inv]
          obtain ⟨g1, g2, g3⟩ := sliceBounds_run (P := P) (w := w) (b := false) hlo hhi (Nat.le_refl b.size) h1 h2
          split at ht
          · rename_i hu
            exact ⟨_, by simp [Instr.sliceAt, Instr.slice, run_underlying hu, g1], .str _⟩
          · rename_i e hu
            exact absurd (okSize_some ht).2 (by omega)
          · cases ht
        · cases h
  · rename_i g k' xs
    split at h
    · cases h
    · rename_i hh h1
      split at h
      · cases h
      · rename_i l h2
        split at h
        · rename_i hk
          simp only [Option.some.injEq] at h; subst h
          obtain ⟨hk, hkpos⟩ := hk
          split at ht
          · exact absurd hkpos (by simp at ht; omega)
          · rename_i e hu
            obtain ⟨hsz, hk0⟩ := okSize_some ht
            cases hx with
            | nil _ _ htag =>
              simp only [List.length_nil] at h1
              obtain ⟨g1, g2, g3⟩ := sliceBounds_run (P := P) (w := w) (b := true) hlo hhi (Nat.le_refl 0) h1 h2
              have hl0 : l = 0 := by omega
              have hh0 : hh = 0 := by omega
              subst hl0; subst hh0
              exact ⟨.slice none 0 0, by simp [Instr.sliceAt, Instr.slice, run_underlying hu, g1, run_sizeOf hsz], by simpa using VR.nil .shared k' trivial⟩
            | void _ _ a hgv =>
              simp only [List.length_nil] at h1
              obtain ⟨g1, g2, g3⟩ := sliceBounds_run (P := P) (w := w) (b := true) hlo hhi (Nat.le_refl 0) h1 h2
              have hl0 : l = 0 := by omega
              have hh0 : hh = 0 := by omega
              subst hl0; subst hh0
              exact ⟨.slice (some a) 0 0, by simp [Instr.sliceAt, Instr.slice, run_underlying hu, g1, run_sizeOf hsz], by simpa using VR.void .shared k' a (.inl rfl)⟩
            | list _ _ _ b o cap vs hcap hkk hf hv hown htag =>
              obtain ⟨g1, g2, g3⟩ := sliceBounds_run (P := P) (w := w) (b := true) hlo hhi hcap h1 h2
              have hlen : ((xs.take hh).drop l).length = hh - l := by simp; omega
              have hkk' : k = k' ∨ xs = [] := hk
              have hget : ∀ (i : Nat) (y : AV), ((xs.take hh).drop l)[i]? = some y → xs[l + i]? = some y := fun i y hy => by
                rw [List.getElem?_drop, List.getElem?_take] at hy
                split at hy
                · exact hy
                · cases hy
              have hne : k = k' ∨ l = 0 := by
                rcases hkk' with h | h
                · exact .inl h
                · subst h; simp only [List.length_nil] at g3; right; omega
              have main : ∀ o', (k = k' → o' = o + l * k) → VR s (.list .shared k' ((xs.take hh).drop l)) (.slice (some ⟨b, o', none⟩) (hh - l) (cap - l)) := fun o' ho' => by
                have := VR.list (s := s) .shared k' ((xs.take hh).drop l) b o' (cap - l) (fun i j => vs (l + i) j) (by rw [hlen]; omega) (fun i y hy => hkk _ y (hget i y hy)) (fun i y j c hy hc => ?_) (fun i y j c hy hc => hv _ y j c (hget i y hy) hc) (fun t e => by cases e) trivial
                · rwa [hlen] at this
                · have h3 := hf _ y j c (hget i y hy) hc
                  rcases hkk' with h | h
                  · rw [ho' h, h]
                    have e3 : o + l * k' + i * k' + j = o + (l + i) * k' + j := by rw [Nat.add_mul]; omega
                    rw [e3]; exact h3
                  · subst h; simp at hy
              by_cases hml : cap = l
              · subst hml
                refine ⟨.slice (some ⟨b, o, none⟩) (hh - cap) (cap - cap), by simp [Instr.sliceAt, Instr.slice, run_underlying hu, g1, run_sizeOf hsz], ?_⟩
                have hemp : (xs.take hh).drop cap = [] := by
                  apply List.eq_nil_of_length_eq_zero; rw [hlen]; omega
                have e0 : hh - cap = 0 := by omega
                have := VR.list (s := s) .shared k' [] b o (cap - cap) vs (by simp) (by simp) (by simp) (by simp) (fun t e => by cases e) trivial
                rw [hemp, e0]; exact this
              · refine ⟨.slice (some ⟨b, o + l * k, none⟩) (hh - l) (cap - l), by simp [Instr.sliceAt, Instr.slice, run_underlying hu, g1, run_sizeOf hsz, hml, Addr.add_lit], main _ (fun _ => rfl)⟩
          · cases ht
        · cases h
  · rename_i id ver off len
    split at h
    · cases h
    · rename_i hh h1
      split at h
      · cases h
      · rename_i l h2
        split at h
        · rename_i hkpos
          simp only [Option.some.injEq] at h; subst h
          split at ht
          · exact absurd hkpos.1 (by simp at ht; omega)
          · rename_i e hu
            obtain ⟨hsz, hk0⟩ := okSize_some ht
            cases hx with
            | ref _ _ _ _ b cap ver' b' n hl hv hb hcap hz =>
              obtain ⟨g1, g2, g3⟩ := sliceBounds_run (P := P) (w := w) (b := true) hlo hhi hcap h1 h2
              have emp : ∀ o' c, VR s (.list .shared k []) (.slice (some ⟨b, o', none⟩) 0 c) := fun o' c =>
                VR.list (s := s) .shared k [] b o' c (fun _ _ => undef) (by simp) (by simp) (by simp) (by simp) (fun t e => by cases e) trivial
              by_cases hml : cap = l
              · subst hml
                have e0 : hh = cap := by omega
                refine ⟨.slice (some ⟨b, off, none⟩) (hh - cap) (cap - cap), by simp [Instr.sliceAt, Instr.slice, run_underlying hu, g1, run_sizeOf hsz], ?_⟩
                rcases Nat.eq_zero_or_pos cap with h0 | h0
                · rw [if_neg (by omega)]
                  subst h0
                  subst e0
                  rw [Nat.zero_mul, Nat.add_zero, Nat.sub_self]
                  exact .ref id ver off 0 b 0 ver' b' n hl hv hb (Nat.le_refl _) (fun e hu => hz e hu)
                · rw [if_pos ⟨e0, h0⟩, e0, Nat.sub_self]
                  exact emp _ _
              · refine ⟨.slice (some ⟨b, off + l * k, none⟩) (hh - l) (cap - l), by simp [Instr.sliceAt, Instr.slice, run_underlying hu, g1, run_sizeOf hsz, hml, Addr.add_lit], ?_⟩
                by_cases e0 : hh = l ∧ 0 < l
                · rw [if_pos e0, e0.1, Nat.sub_self]
                  exact emp _ _
                · rw [if_neg e0]
                  refine .ref _ _ _ _ b _ ver' b' n hl hv hb (by omega) fun e hu => ?_
                  have h5 := hz e hu
                  have hu2 : unitOf ver = k := by
                    rcases hkpos.2 with h | h
                    · exact absurd h hu
                    · exact h
                  rw [hu2] at h5 ⊢
                  have : l * k + (cap - l) * k = cap * k := by rw [← Nat.add_mul]; congr 1; omega
                  omega
          · cases ht
        · cases h
  · cases h

end
end Go.Am
