/- An abstract machine for the part of Go that this program uses: the runs of the further operations. -/
import Derived.Test.YtjkpoaijmbapiaaGreatDoorAmOps10
import GoSem.Builtin.Copy
import Derived.Laws.IdiomStrings
import Derived.Laws.Externs
import Derived.KernelRfl
namespace Go.Am
set_option linter.all false
open Go Go.RowKit

def okOpt : Option Operand → Option Arg → Bool
  | none, none => true
  | some x, some y => okArg x y
  | _, _ => false

/-- A call of a builtin: its name, its operands, their types. -/
def asBuiltin : Op → Option (Builtin × List Operand × List TypeId)
  | .call { callee := .builtin b, args, argTypes } => some (b, args.toList, argTypes.toList)
  | _ => none

theorem asBuiltin_some {o : Op} {b : Builtin} {xs : List Operand} {ts : List TypeId} (h : asBuiltin o = some (b, xs, ts)) : o = .call { callee := .builtin b, args := xs.toArray, argTypes := ts.toArray } := by
  unfold asBuiltin at h
  split at h
  · simp only [Option.some.injEq, Prod.mk.injEq] at h
    obtain ⟨rfl, rfl, rfl⟩ := h
    simp
  · cases h

/-- Is it the library's maps.clone, of which the model has an entry? -/
def okClone (P : Program) (f : Nat) : Bool :=
  match P.funcs[f]? with
  | some fn => fn.name == "maps.clone" && fn.body.isNone && (Extern.findNext fn).isNone
  | none => false

def okF (P : Program) (o : Op) : FOp → List Arg → Bool
  | .isNil kd neg, [x] => match o with
    | .binOp op t a (.const c) _ => decide (op = if neg then .neq else .eql) && okNil P t kd c && okArg a x
    | _ => false
  | .assert t zero ok, [x] => match o with
    | .typeAssert y _ a ok' => a == t && ok' == ok && (match P.underlying a with | some (.interface _) => false | some _ => zeroVal P a zero | none => false) && okArg y x
    | _ => false
  | .sliceA n k lo hi, x :: bs => match o with
    | .slice t y lo' hi' mx => okElemA P t n k && okArg y x && mx.isNone &&
      (match lo, hi, lo', hi', bs with
      | false, false, none, none, [] => true
      | true, false, some l, none, [l'] => okArg l l'
      | false, true, none, some h, [h'] => okArg h h'
      | true, true, some l, some h, [l', h'] => okArg l l' && okArg h h'
      | _, _, _, _, _ => false)
    | _ => false
  | .copy k, [x, y] => match asBuiltin o with
    | some (.copy, [a, b], [t, _]) => (match P.underlying t with | some (.slice e) => okSize P e k | _ => false) && okArg a x && okArg b y
    | _ => false
  | .strBytes, [x] => match o with
    | .convert src dst y => (match P.underlying src with | some .string => true | _ => false) && (match P.underlying dst with | some (.slice e) => (match P.underlying e with | some (.int .u8) => true | _ => false) | _ => false) && okArg y x
    | _ => false
  | .range str, [x] => match o with
    | .range t y => (match P.underlying t with | some .string => str | some (.map _ _) => !str | _ => false) && okArg y x
    | _ => false
  | .next str, [x] => match o with
    | .next y b => b == str && okArg y x
    | _ => false
  | .entry, [x] => match o with
    | .entry y => okArg y x
    | _ => false
  | .makeCap k bytes zero, [l, c] => match o with
    | .makeSlice t l' c' => okMake P t k bytes zero && okArg l' l && okArg c' c
    | _ => false
  | .cloneMap, [x] => match o with
    | .call { callee := .value (.func f), args := xs, .. } => okClone P f && okArgs xs.toList [x]
    | _ => false
  | _, _ => false

section
variable {P : Program} {w0 : Base} {w : World} {s : Sim} {M : Mem}

theorem assert_run {x v zero : AV} {xv : Value} {t xt : TypeId} {ok : Bool} (ht : (match P.underlying t with | some (.interface _) => false | some _ => zeroVal P t zero | none => false) = true) (hx : VR s x xv) (h : aAssert t zero ok x = some v) :
    ∃ u, (Instr.typeAssert xv xt t ok).run P w = .ok u w ∧ VR s v u := by
  have hz : ∃ d, P.underlying t = some d ∧ (∀ m, d ≠ .interface m) ∧ zeroVal P t zero = true := by
    cases hu : P.underlying t with
    | none => rw [hu] at ht; cases ht
    | some d =>
      rw [hu] at ht
      refine ⟨d, rfl, fun m e => ?_, ?_⟩
      · subst e; cases ht
      · cases d <;> first | exact ht | cases ht
  obtain ⟨d, hu, hd, hz⟩ := hz
  obtain ⟨z, hz1, hz2⟩ := run_zeroVal (w := w) hz
  have pair : ∀ {a : AV} {u : Value} (b : Bool), VR s a u → VR s (.tuple [a, .bool b]) (.tuple #[u, .bool b]) := fun {a u} b h => by
    refine .tuple [a, .bool b] [u, .bool b] rfl fun i x v hx hv => ?_
    match i, hx, hv with
    | 0, hx, hv => simp only [List.getElem?_cons_zero, Option.some.injEq] at hx hv; subst hx; subst hv; exact h
    | 1, hx, hv => simp only [List.getElem?_cons_succ, List.getElem?_cons_zero, Option.some.injEq] at hx hv; subst hx; subst hv; exact .bool b
    | i + 2, hx, hv => simp at hx
  unfold aAssert at h
  split at h
  · rename_i t' y
    cases hx with
    | iface _ _ yv hy =>
      split at h
      · rename_i e
        subst e
        simp only [Option.some.injEq] at h
        subst h
        cases ok with
        | true => exact ⟨.tuple #[yv, .bool true], by cases d <;> first | (exact absurd rfl (hd _)) | simp [Instr.typeAssert, run_underlying hu], pair true hy⟩
        | false => exact ⟨yv, by cases d <;> first | (exact absurd rfl (hd _)) | simp [Instr.typeAssert, run_underlying hu], hy⟩
      · rename_i e
        split at h
        · rename_i hok
          subst hok
          simp only [Option.some.injEq] at h
          subst h
          exact ⟨.tuple #[z, .bool false], by cases d <;> first | (exact absurd rfl (hd _)) | simp [Instr.typeAssert, run_underlying hu, e, hz1], pair false (okConst_ok hz2)⟩
        · cases h
  · split at h
    · rename_i hok
      subst hok
      simp only [Option.some.injEq] at h
      subst h
      cases hx
      exact ⟨.tuple #[z, .bool false], by cases d <;> first | (exact absurd rfl (hd _)) | simp [Instr.typeAssert, run_underlying hu, hz1], pair false (okConst_ok hz2)⟩
    · cases h
  · cases h

theorem sliceA_run {t : TypeId} {n k : Nat} {x v : AV} {xv : Value} {lo hi : Option AV} {lov hiv : Option Value} (ht : okElemA P t n k = true) (hx : VR s x xv)
    (hlo : (lo = none ∧ lov = none) ∨ (∃ a b, lo = some a ∧ lov = some b ∧ VR s a b)) (hhi : (hi = none ∧ hiv = none) ∨ (∃ a b, hi = some a ∧ hiv = some b ∧ VR s a b)) (h : aSliceA n k x lo hi = some v) :
    ∃ u, (Instr.sliceAt t xv lov hiv none).run P w = .ok u w ∧ VR s v u := by
  unfold okElemA at ht
  split at ht
  · rename_i n' e he
    simp only [Bool.and_eq_true, beq_iff_eq] at ht
    obtain ⟨rfl, hk⟩ := ht
    obtain ⟨hsz, hk0⟩ := okSize_some hk
    unfold aSliceA at h
    split at h
    · rename_i id ver off
      split at h
      · cases h
      · rename_i hh h1
        split at h
        · cases h
        · rename_i l h2
          split at h
          · rename_i hc
            simp only [Option.some.injEq] at h; subst h
            obtain ⟨g1, g2, g3⟩ := sliceBounds_run (P := P) (w := w) (b := false) hlo hhi (Nat.le_refl n') h1 h2
            cases hx with
            | ptr _ _ _ b ver' b' nz hl hv hb =>
              have hrun : (Instr.sliceAt t (.pointer (some ⟨b, off, none⟩)) lov hiv none).run P w = .ok (.slice (some (if n' = l then ⟨b, off, none⟩ else (⟨b, off, none⟩ : Addr).add (l * k))) (hh - l) (n' - l)) w := by
                simp [Instr.sliceAt, Instr.sureAddr, run_underlying he, g1, run_sizeOf hsz]
              split
              · rename_i e1
                refine ⟨_, hrun, ?_⟩
                subst e1
                rw [Nat.sub_self]
                have : ∀ (a : Nat), VR s (.list .shared k []) (.slice (some ⟨b, a, none⟩) ([] : List AV).length (n' - hh)) := fun a => .list .shared k [] b a _ (fun _ _ => .tuple #[]) (Nat.zero_le _) (fun i x hx => by simp at hx) (fun i x j c hx => by simp at hx) (fun i x j c hx => by simp at hx) (fun t e => by cases e) trivial
                split
                · exact this off
                · rw [Addr.add_lit]; exact this _
              · rename_i e1
                refine ⟨_, hrun, ?_⟩
                rw [if_neg (by omega), Addr.add_lit]
                exact .ref id ver _ _ b _ ver' b' nz hl hv hb (by omega) (fun _ hu => absurd hc.2 hu)
          · cases h
    · cases h
  · cases ht

theorem strBytes_run (hm : MR w0 s M w) {src dst e : TypeId} {x v : AV} {xv : Value} (hs : P.underlying src = some .string) (hd : P.underlying dst = some (.slice e)) (he : P.underlying e = some (.int .u8)) (hx : VR s x xv) (h : aBytes x = some v) :
    ∃ s' w' u, s.le s' ∧ MR w0 s' M w' ∧ (convert src dst xv).run P w = .ok u w' ∧ VR s' v u := by
  unfold aBytes at h
  split at h
  · rename_i b
    simp only [Option.some.injEq] at h; subst h
    rw [hx.str_inv]
    have hd0 := hm.drew
    have hget : ∀ (o : Nat) (u : Value), (b.data.toList.map fun c => Value.int .u8 c.toNat)[o]? = some u → (bytesRow b (grownCap w b.size 0 e))[o]? = some u := fun o u ho => by
      have hlt : o < b.data.size := by
        have := (List.getElem?_eq_some_iff.1 ho).1
        simpa using this
      unfold bytesRow
      rw [Array.getElem?_append_left (by simpa using hlt)]
      simpa using ho
    have hle := le_freeze_new hd0 (fun o => (b.data.toList.map fun c => Value.int .u8 c.toNat)[o]?)
    refine ⟨_, _, _, hle, hd0.allocFzP (bytesRow b (grownCap w b.size 0 e)) e ((bytesRow b (grownCap w b.size 0 e)).size, (bytesRow b (grownCap w b.size 0 e)).size + 1) _ fun o u ho => ⟨hget o u ho, ?_⟩, run_bytes_of_string w src dst e b hs hd he, ?_⟩
    · have := List.mem_of_getElem? ho
      simp only [List.mem_map] at this
      obtain ⟨c, _, rfl⟩ := this
      rfl
    · have hlen : (b.data.toList.map fun c => AV.int .u8 c.toNat).length = b.size := by rw [List.length_map, Array.length_toList]; rfl
      rw [← hlen]
      refine .list .shared 1 _ w.heap.size 0 _ (fun i _ => ((b.data.toList.map fun c => Value.int .u8 c.toNat)[i]?).getD undef) (by rw [hlen]; exact grownCap_ge _ _ _ _) (fun i x hx => ?_) (fun i x j c hx hc => ?_) (fun i x j c hx hc => ?_) (fun t e => by cases e) trivial
      · simp only [List.getElem?_map, Option.map_eq_some_iff] at hx
        obtain ⟨y, _, rfl⟩ := hx; rfl
      all_goals
        simp only [List.getElem?_map, Option.map_eq_some_iff] at hx
        obtain ⟨y, hy, rfl⟩ := hx
        cases j with
        | succ j => simp [AV.cells] at hc
        | zero =>
          simp only [AV.cells, List.getElem?_cons_zero, Option.some.injEq] at hc
          subst hc
          first
            | (simp only [Sim.freeze, World.drew, if_true, Nat.zero_add, Nat.mul_one, Nat.add_zero, List.getElem?_map, hy, Option.map_some, Option.getD_some]; done)
            | (simp only [Sim.freeze, World.drew, if_true, Nat.zero_add, Nat.mul_one, Nat.add_zero, List.getElem?_map, hy, Option.map_some, Option.getD_some]; exact .int _ _)
  · cases h

theorem range_run (hm : MR w0 s M w) {t : TypeId} {str : Bool} {x v : AV} {xv : Value} {M' : Mem} (ht : (match P.underlying t with | some .string => str | some (.map _ _) => !str | _ => false) = true) (hx : VR s x xv) (h : aRange M str x = some (v, M')) :
    ∃ s' w' u, s.le s' ∧ MR w0 s' M' w' ∧ (Instr.range t xv).run P w = .ok u w' ∧ VR s' v u := by
  unfold aRange at h
  split at h
  · rename_i id
    split at h
    · rename_i es hid
      split at h
      · rename_i hlen
        simp only [Option.some.injEq, Prod.mk.injEq] at h
        obtain ⟨rfl, rfl⟩ := h
        obtain ⟨b, mes, clock, h1, h2, h3, ⟨h5, h6⟩, h4⟩ := hm.obj id _ hid
        cases hx with
        | map _ b' hl =>
          rw [h1] at hl
          cases hl
          have hu : ∃ k e, P.underlying t = some (.map k e) := by
            split at ht
            · cases ht
            · exact ⟨_, _, by assumption⟩
            · cases ht
          obtain ⟨k, e, hu⟩ := hu
          have hc : clock = es.length := by rw [h5, h3]
          refine ⟨_, _, _, le_setLoc_new hm _, hm.newIter h1 hlen, ?_, .ptr _ 0 0 w.heap.size 0 (some w.heap.size) 0 (setLoc_self _ _ _) (Nat.le_refl _) (fun _ => rfl)⟩
          simp [Instr.range, run_underlying hu, run_getObj_map h2, hc]
      · cases h
    · cases h
  · rename_i b
    simp only [Option.some.injEq, Prod.mk.injEq] at h
    obtain ⟨rfl, rfl⟩ := h
    rw [hx.str_inv]
    have hu : P.underlying t = some .string := by
      split at ht
      · assumption
      · cases ht
      · cases ht
    refine ⟨_, _, _, le_setLoc_new hm _, hm.newSiter b, ?_, .ptr _ 0 0 w.heap.size 0 (some w.heap.size) 0 (setLoc_self _ _ _) (Nat.le_refl _) (fun _ => rfl)⟩
    simp [Instr.range, run_underlying hu]
  · cases h

/-- An object that is no row of cells is turned, in its own block. -/
theorem MR.turnObj (hm : MR w0 s M w) {id b : Nat} {l : Loc} {o o0 : AObj} {x x0 : Obj} (hid : M.objs[id]? = some o0) (hl : s.loc id = some l) (hlb : l.block = some b) (hb : w.heap[b]? = some x0) (hx : ∀ c e p, x0 ≠ .cells c e p)
    (ho : OR w0 s (w.putObj b x) id o) : MR w0 s (M.put id o) (w.putObj b x) := by
  have hs : ({ fz := s.fz, loc := (s.setLoc id l).loc, defs := s.defs } : Sim) = s := by
    cases s with
    | mk fz loc defs =>
      simp only [Sim.setLoc, Sim.mk.injEq, true_and, and_true]
      funext i
      split
      · rename_i e; subst e; exact hl.symm
      · rfl
  have hB := hm.own id l b hl hlb
  have := hm.setObj (List.getElem?_eq_some_iff.1 hid).1 o l hl (Loc.le_refl _) (w.putObj b x) s.fz (fun _ _ _ h => h) (fun _ _ _ => rfl)
    (fun b' hb' _ => heap_put_ne (fun e => hb' (by rw [e]; exact hlb))) (below_putObj hm.below hB _)
    (fun b' hb' => by
      rw [hlb] at hb'; cases hb'
      exact ⟨hB, .inl hlb⟩)
    (fun b' i v hb' hv => by
      rw [hlb] at hb'; cases hb'
      have h1 := (hm.fz _ _ _ hv).1
      rw [no_cell hb hx] at h1
      cases h1)
    (by rw [hs]; exact ho) none
  rw [hs] at this
  exact MR.put_of hm this.2

theorem run_setObj_put {b : Nat} {x x0 : Obj} (h : w.heap[b]? = some x0) (hx : ∀ c e p, x0 ≠ .cells c e p) : (setObj b x).run P w = .ok () (w.putObj b x) := by
  cases x0 <;> first | (exact absurd rfl (hx _ _ _)) | simp [setObj, Sem.run, h, World.putObj]

theorem run_getObj_some {b : Nat} {x : Obj} (h : w.heap[b]? = some x) (hx : ∀ c e p, x ≠ .cells c e p) : (getObj b).run P w = .ok x w := by
  cases x <;> first | (exact absurd rfl (hx _ _ _)) | simp [getObj, Sem.run, h]

theorem next_run (hm : MR w0 s M w) {ty : TypeId} {str : Bool} {x v : AV} {xv : Value} {M' : Mem} (hx : VR s x xv) (h : aNext M str x = some (v, M')) :
    ∃ s' w' u, s.le s' ∧ MR w0 s' M' w' ∧ (Instr.next xv str ty).run P w = .ok u w' ∧ VR s' v u := by
  have over : VR s (.tuple [.bool false]) (.tuple #[.bool false]) := .tuple [.bool false] [.bool false] rfl fun i x v hx hv => by
    cases i with
    | zero => simp only [List.getElem?_cons_zero, Option.some.injEq] at hx hv; subst hx; subst hv; exact .bool false
    | succ i => simp at hx
  have three : ∀ {a b : AV} {u u' : Value}, VR s a u → VR s b u' → VR s (.tuple [.bool true, a, b]) (.tuple #[.bool true, u, u']) := fun {a b u u'} h h' => by
    refine .tuple [.bool true, a, b] [.bool true, u, u'] rfl fun i x v hx hv => ?_
    match i, hx, hv with
    | 0, hx, hv => simp only [List.getElem?_cons_zero, Option.some.injEq] at hx hv; subst hx; subst hv; exact .bool true
    | 1, hx, hv => simp only [List.getElem?_cons_succ, List.getElem?_cons_zero, Option.some.injEq] at hx hv; subst hx; subst hv; exact h
    | 2, hx, hv => simp only [List.getElem?_cons_succ, List.getElem?_cons_zero, Option.some.injEq] at hx hv; subst hx; subst hv; exact h'
    | i + 3, hx, hv => simp at hx
  unfold aNext at h
  split at h
  · rename_i id
    split at h
    · rename_i mid n seen hid
      split at h
      · rename_i es hmid
        split at h
        · rename_i hlen
          obtain ⟨b, mb, h1, h2, h3, h4⟩ := hm.obj id _ hid
          obtain ⟨b2, mes, clock, g1, g2, g3, ⟨g5, g6⟩, g4⟩ := hm.obj mid _ hmid
          rw [h3] at g1
          cases g1
          cases hx with
          | ptr _ _ _ b' ver' b'' nz hl hv hb =>
            rw [h1] at hl
            cases hl
            have := hb rfl
            simp only [Option.some.injEq] at this
            subst this
            split at h
            · rename_i e
              simp only [Option.some.injEq, Prod.mk.injEq] at h
              obtain ⟨rfl, rfl⟩ := h
              simp only [List.length_cons, List.length_nil, Nat.zero_add] at hlen g3
              subst hlen
              obtain ⟨m, hmes⟩ : ∃ m, mes = #[m] := by
                match mes, g3 with
                | ⟨[m]⟩, _ => exact ⟨m, rfl⟩
              subst hmes
              have hborn : m.born = 0 := g6 0 m rfl
              obtain ⟨k1, k2⟩ := g4 0 e m rfl rfl
              subst g5
              refine ⟨s, _, _, .refl s, hm.turnObj hid h1 rfl h2 (by simp) ⟨b, mb, h1, by simp [World.putObj, (Array.getElem?_eq_some_iff.1 h2).1]; rfl, h3, h4⟩, ?_, three k1 k2⟩
              simp [Instr.next, run_getObj_some h2 (by simp), run_getObj_some g2 (by simp), hborn, Question.forced, run_setObj_put h2 (by simp)]
            · rename_i hne
              simp only [Option.some.injEq, Prod.mk.injEq] at h
              obtain ⟨rfl, rfl⟩ := h
              refine ⟨s, w, _, .refl s, hm, ?_, over⟩
              match es, n, hlen, h4, g3 with
              | [], _, rfl, _, g3 =>
                have : mes = #[] := Array.eq_empty_of_size_eq_zero g3
                subst this
                cases seen <;> simp [Instr.next, run_getObj_some h2 (by simp), run_getObj_some g2 (by simp), Question.forced]
              | [e], _, rfl, _, g3 =>
                cases seen with
                | false => exact absurd rfl (hne e rfl)
                | true =>
                  obtain ⟨m, hmes⟩ : ∃ m, mes = #[m] := by
                    match mes, g3 with
                    | ⟨[m]⟩, _ => exact ⟨m, rfl⟩
                  subst hmes
                  have hborn : m.born = 0 := g6 0 m rfl
                  subst g5
                  simp [Instr.next, run_getObj_some h2 (by simp), run_getObj_some g2 (by simp), hborn, Question.forced]
              | _ :: _ :: _, _, rfl, h4, _ => simp at h4
        · cases h
      · cases h
    · cases h
  · rename_i id
    split at h
    · rename_i bs pos hid
      obtain ⟨b, h1, h2⟩ := hm.obj id _ hid
      cases hx with
      | ptr _ _ _ b' ver' b'' nz hl hv hb =>
        rw [h1] at hl
        cases hl
        have := hb rfl
        simp only [Option.some.injEq] at this
        subst this
        split at h
        · rename_i hlt
          simp only [Option.some.injEq, Prod.mk.injEq] at h
          obtain ⟨rfl, rfl⟩ := h
          refine ⟨s, _, _, .refl s, hm.turnObj hid h1 rfl h2 (by simp) ⟨b, h1, by simp [World.putObj, (Array.getElem?_eq_some_iff.1 h2).1]; rfl⟩, ?_, three (.int .i64 pos) (.int .i32 _)⟩
          simp [Instr.next, run_getObj_some h2 (by simp), hlt, run_setObj_put h2, goInt]
        · rename_i hge
          simp only [Option.some.injEq, Prod.mk.injEq] at h
          obtain ⟨rfl, rfl⟩ := h
          exact ⟨s, w, _, .refl s, hm, by simp [Instr.next, run_getObj_some h2 (by simp), hge], over⟩
    · cases h
  · cases h

theorem entry_run (hm : MR w0 s M w) {x v : AV} {xv : Value} (hx : VR s x xv) (h : aEntry M x = some v) : ∃ u, (Instr.entry xv).run P w = .ok u w ∧ VR s v u := by
  unfold aEntry at h
  split at h
  · rename_i id
    split at h
    · rename_i mid n hid
      split at h
      · rename_i es hmid
        split at h
        · rename_i hlen
          split at h
          · rename_i e
            simp only [Option.some.injEq] at h
            subst h
            obtain ⟨b, mb, h1, h2, h3, h4⟩ := hm.obj id _ hid
            obtain ⟨b2, mes, clock, g1, g2, g3, ⟨g5, g6⟩, g4⟩ := hm.obj mid _ hmid
            rw [h3] at g1
            cases g1
            cases hx with
            | ptr _ _ _ b' ver' b'' nz hl hv hb =>
              rw [h1] at hl
              cases hl
              have := hb rfl
              simp only [Option.some.injEq] at this
              subst this
              simp only [List.length_cons, List.length_nil, Nat.zero_add] at hlen g3
              subst hlen
              obtain ⟨m, hmes⟩ : ∃ m, mes = #[m] := by
                match mes, g3 with
                | ⟨[m]⟩, _ => exact ⟨m, rfl⟩
              subst hmes
              have hborn : m.born = 0 := g6 0 m rfl
              obtain ⟨k1, k2⟩ := g4 0 e m rfl rfl
              subst g5
              refine ⟨.tuple #[m.key, m.val], ?_, .tuple [e.1, e.2] [m.key, m.val] rfl fun i x v hx hv => ?_⟩
              · simp [Instr.entry, run_getObj_some h2 (by simp), run_getObj_some g2 (by simp), hborn]
              · match i, hx, hv with
                | 0, hx, hv => simp only [List.getElem?_cons_zero, Option.some.injEq] at hx hv; subst hx; subst hv; exact k1
                | 1, hx, hv => simp only [List.getElem?_cons_succ, List.getElem?_cons_zero, Option.some.injEq] at hx hv; subst hx; subst hv; exact k2
                | i + 2, hx, hv => simp at hx
          · cases h
        · cases h
      · cases h
    · cases h
  · cases h

theorem makeCap_run (hm : MR w0 s M w) {t : TypeId} {k bytes : Nat} {zero : List AV} {l c v : AV} {lv cv : Value} {M' : Mem} (hok : okMake P t k bytes zero = true) (hl : VR s l lv) (hc : VR s c cv) (h : aMakeCap M k bytes zero l c = some (v, M')) :
    ∃ s' w' u, s.le s' ∧ MR w0 s' M' w' ∧ (Instr.makeSlice t lv cv).run P w = .ok u w' ∧ VR s' v u := by
  unfold aMakeCap at h
  split at h
  · rename_i i j
    split at h
    · rename_i hcond
      obtain ⟨rfl, h0, hb, hr, hzl, hk⟩ := hcond
      simp only [Option.some.injEq, Prod.mk.injEq] at h
      obtain ⟨rfl, rfl⟩ := h
      rw [hl.int_inv, hc.int_inv]
      unfold okMake at hok
      split at hok
      · rename_i e he
        split at hok
        · rename_i ti hi
          simp only [Bool.and_eq_true, beq_iff_eq] at hok
          obtain ⟨⟨rfl, rfl⟩, hz⟩ := hok
          obtain ⟨z, hz1, hz2⟩ := run_zeroValue (w := w) hz
          have hiz : ti.zero = some z := by
            unfold okZero at hz
            rw [hi] at hz
            cases hzz : ti.zero with
            | none => simp [hzz] at hz
            | some z' =>
              simp only [zeroValue, Sem.run_bind, typeInfo, run_program, Result.andThen_ok, hi, Sem.run_pure, hzz, Result.ok.injEq] at hz1
              rw [hz1.1]
          unfold room at hb hr
          have hrun := run_make (P := P) w t e ti z he hi hiz .i64 .i64 0 j (Int.le_refl _) h0 (by rw [Int.mul_comm]; omega) (by omega)
          have hsz : (madeCells z.cells (j.toNat * ti.size)).size = j.toNat * ti.size := by simp [madeCells]
          refine ⟨_, _, _, le_setLoc_new hm (.tip 0 ti.size (some w.heap.size) j.toNat), (hm.alloc _).pushObj (.tip 0) (.tip 0 ti.size (some w.heap.size) j.toNat) (fun b hb => ?_) ?_, hrun, ?_⟩
          · simp only [Loc.block, Option.some.injEq] at hb
            subst hb
            exact ⟨hm.below.size, fun i l' hl' hb' => absurd (hm.block_lt hl' hb') (Nat.lt_irrefl _), hm.held_new⟩
          · exact ⟨ti.size, some w.heap.size, j.toNat, setLoc_self _ _ _, _, e, heap_alloc_new w _, hsz, Nat.zero_le _, hk, fun o _ => hm.fz_new o⟩
          · exact .list (.own M.objs.length) ti.size [] w.heap.size 0 j.toNat (fun _ _ => undef) (Nat.zero_le _) (fun i x hx => by simp at hx) (fun i x j c hx => by simp at hx) (fun i x j c hx => by simp at hx) (fun _ _ => rfl)
              ⟨0, ti.size, some w.heap.size, j.toNat, setLoc_self _ _ _, Nat.le_refl _, fun _ => ⟨rfl, rfl, .inl rfl⟩⟩
        · cases hok
      · cases hok
    · cases h
  · cases h

theorem clone_find {fn : Func} (h : fn.name = "maps.clone") : Extern.find fn = some Extern.MapsClone.clone := by
  have h1 : Extern.allGenericRows.lookup "maps.clone" = none := by kernel_rfl
  have h2 : Extern.allTypedRows.lookup "maps.clone" = none := by kernel_rfl
  have h3 : Extern.allRows.lookup "maps.clone" = some Extern.MapsClone.clone := by kernel_rfl
  simp only [Extern.find, h, h1, h2, h3, Option.map_none]
  rfl

theorem cloneMap_run (hm : MR w0 s M w) {f : Nat} {x v : AV} {xv : Value} {M' : Mem} (hok : okClone P f = true) (hx : VR s x xv) (h : aCloneMap M x = some (v, M')) :
    ∃ s' w' u, s.le s' ∧ MR w0 s' M' w' ∧ (callFunc f #[xv]).run P w = .ok (.value u) w' ∧ VR s' v u := by
  unfold aCloneMap at h
  split at h
  · rename_i t id
    split at h
    · rename_i es hid
      simp only [Option.some.injEq, Prod.mk.injEq] at h
      obtain ⟨rfl, rfl⟩ := h
      obtain ⟨b, mes, clock, h1, h2, h3, h5, h4⟩ := hm.obj id _ hid
      cases hx with
      | iface _ _ yv hy =>
        cases hy with
        | map _ b' hl =>
          rw [h1] at hl
          cases hl
          unfold okClone at hok
          split at hok
          · rename_i fn hf
            simp only [Bool.and_eq_true, beq_iff_eq, Option.isNone_iff_eq_none] at hok
            obtain ⟨⟨k1, k2⟩, k3⟩ := hok
            have e : Extern.MapsClone.clone #[.iface t (.map (some b))] = (getObj b >>= fun o => match o with
                | .map entries clock => (newObj (.map entries clock) >>= fun n => pure (.iface t (.map (some n))))
                | _ => stuck "maps.clone: a map expected") := rfl
            refine ⟨_, _, _, le_setLoc_new hm _, hm.newMapV es mes clock h3 h5 h4, ?_, .iface t _ _ (.map _ _ (setLoc_self _ _ _))⟩
            rw [run_callFunc_extern hf (by rw [k1]; rfl) (by rw [k2]; rfl) k3 (clone_find k1), e]
            simp [run_getObj_map h2]
          · cases hok
    · cases h
  · cases h

theorem LC.take {k : Nat} {xs : List AV} {cs : List Value} (h : LC s k xs cs) (n : Nat) : LC s k (xs.take n) (cs.take (n * k)) := by
  refine ⟨?_, fun i x hx => ?_, fun i x j c hx hc => ?_, fun u hu => h.one u (List.mem_of_mem_take hu)⟩
  · rw [List.length_take, List.length_take, h.len]
    rcases Nat.le_total n xs.length with h1 | h1
    · rw [Nat.min_eq_left h1, Nat.min_eq_left (Nat.mul_le_mul_right k h1)]
    · rw [Nat.min_eq_right h1, Nat.min_eq_right (Nat.mul_le_mul_right k h1)]
  · rw [List.getElem?_take] at hx
    split at hx
    · exact h.size i x hx
    · cases hx
  · rw [List.getElem?_take] at hx
    split at hx
    · rename_i hi
      obtain ⟨u, h1, h2⟩ := h.get i x j c hx hc
      refine ⟨u, ?_, h2⟩
      have hj : j < k := by rw [← h.size i x hx]; exact (List.getElem?_eq_some_iff.1 hc).1
      have : i * k + j < n * k := by
        have := Nat.mul_le_mul_right k (show i + 1 ≤ n from hi)
        rw [Nat.add_mul] at this
        omega
      rw [List.getElem?_take, if_pos this]
      exact h1
    · cases hx

theorem copy_run (hm : MR w0 s M w) {t t2 ty : TypeId} {k : Nat} {x y : AV} {xv yv : Value} {ys0 : List AV} {v : AV} {M' : Mem} (hok : (match P.underlying t with | some (.slice e) => okSize P e k | _ => false) = true) (hx : VR s x xv) (hy : VR s y yv)
    (hys : M.elems k y = some ys0) (h : aCopy M k x (ys0.map AV.untag) = some (v, M')) :
    ∃ s' w' u, s.le s' ∧ MR w0 s' M' w' ∧ (Builtin.copy_ #[t, t2] ty #[xv, yv]).run P w = .ok u w' ∧ VR s' v u := by
  split at hok
  · rename_i e he
    obtain ⟨hsz, hk0⟩ := okSize_some hok
    obtain ⟨ti, hti, htsz⟩ : ∃ i, P.info? e = some i ∧ i.size = k := by
      simp only [szOf, Option.map_eq_some_iff] at hsz
      exact hsz
    -- nothing is copied
    have none0 : ∀ (a : Option Addr) (n c : Nat), (n = 0 ∨ ys0 = []) → xv = .slice a n c → ∃ u, (Builtin.copy_ #[t, t2] ty #[xv, yv]).run P w = .ok u w ∧ VR s (.int .i64 0) u := by
      intro a n c h0 hxv
      subst hxv
      have hl : ∃ m, (Builtin.lenOf yv).run P w = .ok m w ∧ Nat.min m n = 0 ∧ ∃ cs, (Builtin.firstCells k 0 yv).run P w = .ok cs w ∧ cs.toList = [] := by
        rcases elems_run hm hk0 hy hys with ⟨rfl | ⟨b, rfl⟩, _⟩ | ⟨b, o, cap, cs, rfl, _⟩
        · exact ⟨0, by simp [Builtin.lenOf], by simp, #[], by simp [Builtin.firstCells], rfl⟩
        · exact ⟨0, by simp [Builtin.lenOf], by simp, _, run_firstCells_some (P := P) w k 0 b 0 0 [] (by simp) (by simp), rfl⟩
        · refine ⟨ys0.length, by simp [Builtin.lenOf], ?_, _, run_firstCells_some (P := P) w k 0 ⟨b, o, none⟩ _ _ [] (by simp) (by simp), rfl⟩
          rcases h0 with rfl | rfl <;> simp
      obtain ⟨m, g1, g2, cs, g3, g4⟩ := hl
      refine ⟨.int .i64 0, ?_, .int _ _⟩
      cases a with
      | none => simp [Builtin.copy_, run_underlying he, g1, g2, run_sizeOf hsz, g3, goInt]
      | some a => simp [Builtin.copy_, run_underlying he, g1, g2, run_sizeOf hsz, g3, g4, storeCells, goInt]
    unfold aCopy at h
    split at h
    · rename_i id ver off len
      cases hx with
      | ref _ _ _ _ b2 cap ver2 b' nz hl hv hb hcap hzz =>
        split at h
        · rename_i htake
          simp only [Option.some.injEq, Prod.mk.injEq] at h
          obtain ⟨rfl, rfl⟩ := h
          have h0 : len = 0 ∨ ys0 = [] := by
            rcases List.take_eq_nil_iff.1 htake with h | h
            · exact .inl h
            · exact .inr (by simpa using h)
          obtain ⟨u, g1, g2⟩ := none0 _ _ _ h0 rfl
          exact ⟨s, w, u, .refl s, hm, g1, g2⟩
        · rename_i z zs htake
          split at h
          · rename_i ver' cs hid
            split at h
            · rename_i hc
              obtain ⟨rfl, hle, _, _⟩ := hc
              simp only [Option.some.injEq, Prod.mk.injEq] at h
              obtain ⟨rfl, rfl⟩ := h
              obtain ⟨b, c, e0, h1, h2, h3, h4, h5⟩ := hm.obj id _ hid
              have hidl : id < M.objs.length := (List.getElem?_eq_some_iff.1 hid).1
              rw [h1] at hl
              cases hl
              have := hb rfl
              simp only [Option.some.injEq] at this
              subst this
              have hne : ys0 ≠ [] := fun e => by rw [e] at htake; simp at htake
              obtain ⟨b3, o3, cap3, ds, rfl, hcap3, hld, hcell⟩ : ∃ b o cap cs, yv = .slice (some ⟨b, o, none⟩) ys0.length cap ∧ ys0.length ≤ cap ∧ LC s k ys0 cs ∧ ∀ i u, cs[i]? = some u → w.cell? ⟨b, o + i, none⟩ = some u := by
                rcases elems_run hm hk0 hy hys with ⟨_, h⟩ | h
                · exact absurd h hne
                · exact h
              have hzl : (z :: zs).length = Nat.min ys0.length len := by rw [← htake]; simp [Nat.min_comm]
              -- the cells that come
              have hLC : LC s k (z :: zs) (ds.take (len * k)) := by rw [← htake]; exact hld.untag.take len
              generalize hes : ds.take (len * k) = es at hLC
              have hel : es.length = (z :: zs).length * k := hLC.len
              have hecell : ∀ i u, es[i]? = some u → w.cell? ((⟨b3, o3, none⟩ : Addr).add i) = some u := fun i u hi => by
                rw [← hes, List.getElem?_take] at hi
                split at hi
                · rw [Addr.add_lit]; exact hcell i u hi
                · cases hi
              have hf := run_firstCells_some (P := P) w k (Nat.min ys0.length len) ⟨b3, o3, none⟩ ys0.length cap3 es (by rw [hel, hzl]) hecell
              have hle2 : off + es.length ≤ c.size := Nat.le_trans (by rw [hel]; exact hle) h3
              have hone : ∀ u ∈ es, u.oneCell' = true := fun u hu => by rw [one_iff]; exact hLC.one u hu
              have hfl : (flat (z :: zs)).length = (z :: zs).length * k := flat_len hLC.size
              have hst := run_storeCells_at P b off e0 es 0 c w h2 (by rw [Nat.add_zero]; exact hle2) hone
              simp only [Nat.add_zero] at hst
              have hB : w0.heap.size ≤ b := hm.own id _ b h1 rfl
              have hsz2 : (c.toList.take off ++ es ++ c.toList.drop (off + es.length)).toArray.size = c.size := by
                simp only [List.size_toArray, List.length_append, List.length_take, List.length_drop, Array.length_toList]
                omega
              have mono : s.le { fz := s.fz, loc := (s.setLoc id (.row ver (some b) c.size)).loc, defs := s.defs } := ⟨fun _ _ _ h => h, fun i l hl => ⟨l, by
                simp only [Sim.setLoc]
                split
                · rename_i e; subst e; rw [h1] at hl; exact hl
                · exact hl, l.le_refl⟩, fun _ h => h⟩
              have hmain := hm.setObj hidl (.row ver (setCells cs off (flat (z :: zs)))) (.row ver (some b) c.size) h1 (Loc.le_refl _)
                (w.setRow b (c.toList.take off ++ es ++ c.toList.drop (off + es.length)).toArray) s.fz (fun _ _ _ h => h) (fun _ _ _ => rfl)
                (fun b' hb' _ => setRow_other w b b' _ (fun e => hb' (by rw [e]; rfl))) (below_setRow hm.below hB _)
                (fun b' hb' => ⟨by cases hb'; exact hB, .inl hb'⟩)
                (fun b' o v hb' hf => by cases hb'; rw [h5 o] at hf; cases hf)
                ⟨b, _, e0, by rw [hsz2]; simp [Sim.setLoc], setRow_heap w b c _ e0 _ h2, by rw [hsz2, length_setCells (by rw [hfl]; exact hle)]; exact h3, fun i y v hy hv => by
                  rw [setCells_get (by rw [hfl]; exact hle), hfl] at hy
                  have hv' : (c.toList.take off ++ es ++ c.toList.drop (off + es.length))[i]? = some v := by simpa using hv
                  rw [spliced_get (by rw [Array.length_toList]; exact hle2), hel] at hv'
                  split at hy
                  · rename_i hin
                    rw [if_pos hin] at hv'
                    have := hLC.flat hy hv'
                    exact ⟨this.1.mono mono, this.2⟩
                  · rename_i hin
                    rw [if_neg hin] at hv'
                    exact ⟨(h4 i y v hy (by simpa using hv')).1.mono mono, (h4 i y v hy (by simpa using hv')).2⟩, h5⟩ none
              refine ⟨_, _, .int .i64 (z :: zs).length, hmain.1, hm.put_of hmain.2, ?_, .int _ _⟩
              have hcast : goInt (Nat.min ys0.length len) = .int .i64 (z :: zs).length := by rw [hzl]; rfl
              simp [Builtin.copy_, run_underlying he, Builtin.lenOf, run_sizeOf hsz, hf, hst, hcast]
            · cases h
          · cases h
    · simp only [Option.some.injEq, Prod.mk.injEq] at h
      obtain ⟨rfl, rfl⟩ := h
      have : ∃ a c, xv = .slice a 0 c := by
        cases hx with
        | nil => exact ⟨_, _, rfl⟩
        | void => exact ⟨_, _, rfl⟩
        | list => exact ⟨_, _, rfl⟩
      obtain ⟨a, c, rfl⟩ := this
      obtain ⟨u, g1, g2⟩ := none0 _ _ _ (.inl rfl) rfl
      exact ⟨s, w, u, .refl s, hm, g1, g2⟩
    · cases h
  · cases hok

theorem evArgs_cons {L : Env} {x : Arg} {xs : List Arg} {vs : List AV} (h : evArgs L (x :: xs) = some vs) : ∃ v us, vs = v :: us ∧ x.ev L = some v ∧ evArgs L xs = some us := by
  simp only [evArgs] at h
  split at h
  · cases h
  · rename_i v e1
    split at h
    · cases h
    · rename_i us e2
      simp only [Option.some.injEq] at h
      exact ⟨v, us, h.symm, e1, e2⟩

theorem evArgs_nil {L : Env} {vs : List AV} (h : evArgs L [] = some vs) : vs = [] := by
  simp only [evArgs, Option.some.injEq] at h; exact h.symm

theorem valF_some {x : Option AV} {v : AV} {M' : Mem} (h : valF x M = some (v, M')) : x = some v ∧ M' = M := by
  unfold valF at h
  split at h
  · cases h
  · simp only [Option.some.injEq, Prod.mk.injEq] at h
    obtain ⟨rfl, rfl⟩ := h
    exact ⟨rfl, rfl⟩

theorem OpOk.of_run {x : Sem Value} {r : AV} {M' : Mem} (h : ∃ s' w' u, s.le s' ∧ MR w0 s' M' w' ∧ x.run P w = .ok u w' ∧ VR s' r u) : OpOk P w0 s (do pure (.value (← x))) w r M' := by
  obtain ⟨s', w', u, h1, h2, h3, h4⟩ := h
  exact ⟨s', w', h1, h2, .inl ⟨u, by simp [Sem.run_bind, h3], h4⟩⟩

theorem OpOk.of_pure (hm : MR w0 s M w) {x : Sem Value} {r : AV} (h : ∃ u, x.run P w = .ok u w ∧ VR s r u) : OpOk P w0 s (do pure (.value (← x))) w r M := by
  obtain ⟨u, h1, h2⟩ := h
  exact .of_run ⟨s, w, u, .refl s, hm, h1, h2⟩

theorem fn_run (hm : MR w0 s M w) {L : Env} {a : Act} (hL : LR s L a.tmps) {o : Oper} {f : FOp} {xs : List Arg} {vs : List AV} {r : AV} {M' : Mem} (hok : okF P o.op f xs = true) (he : evArgs L xs = some vs) (h : aFn f vs M = some (r, M')) :
    OpOk P w0 s (execOp a.eval o) w r M' := by
  unfold okF at hok
  split at hok
  · -- isNil
    split at hok
    · rename_i x _ op' t y c yt ho
      obtain ⟨v, us, rfl, e1, e2⟩ := evArgs_cons he
      cases evArgs_nil e2
      obtain ⟨h1, rfl⟩ := valF_some h
      simp only [Bool.and_eq_true, decide_eq_true_eq] at hok
      obtain ⟨b, rfl, h2⟩ := nil_run (P := P) (w := w) (op := op') (o1 := y) hok.1.1 hok.1.2 (okArg_ok hL hok.2 e1) h1
      simp only [execOp, ho]
      exact .of_pure hm ⟨_, h2, .bool b⟩
    · cases hok
  · -- assert
    split at hok
    · rename_i x _ y xt a' ok' ho
      obtain ⟨v, us, rfl, e1, e2⟩ := evArgs_cons he
      cases evArgs_nil e2
      obtain ⟨h1, rfl⟩ := valF_some h
      simp only [Bool.and_eq_true, beq_iff_eq] at hok
      obtain ⟨⟨⟨rfl, rfl⟩, hz⟩, hx⟩ := hok
      simp only [execOp, ho]
      exact .of_pure hm (assert_run (by simpa using hz) (okArg_ok hL hx e1) h1)
    · cases hok
  · -- sliceA
    split at hok
    · rename_i n k lo hi x bs _ t y lo' hi' mx ho
      simp only [Bool.and_eq_true, Option.isNone_iff_eq_none] at hok
      obtain ⟨⟨⟨ht, hx⟩, rfl⟩, hb⟩ := hok
      obtain ⟨v, us, rfl, e1, e2⟩ := evArgs_cons he
      simp only [execOp, ho, Option.map_none]
      split at hb
      · cases evArgs_nil e2
        obtain ⟨h1, rfl⟩ := valF_some h
        exact .of_pure hm (sliceA_run ht (okArg_ok hL hx e1) (.inl ⟨rfl, rfl⟩) (.inl ⟨rfl, rfl⟩) h1)
      · obtain ⟨v2, us2, rfl, e3, e4⟩ := evArgs_cons e2
        cases evArgs_nil e4
        obtain ⟨h1, rfl⟩ := valF_some h
        exact .of_pure hm (sliceA_run ht (okArg_ok hL hx e1) (.inr ⟨_, _, rfl, rfl, okArg_ok hL hb e3⟩) (.inl ⟨rfl, rfl⟩) h1)
      · obtain ⟨v2, us2, rfl, e3, e4⟩ := evArgs_cons e2
        cases evArgs_nil e4
        obtain ⟨h1, rfl⟩ := valF_some h
        exact .of_pure hm (sliceA_run ht (okArg_ok hL hx e1) (.inl ⟨rfl, rfl⟩) (.inr ⟨_, _, rfl, rfl, okArg_ok hL hb e3⟩) h1)
      · obtain ⟨v2, us2, rfl, e3, e4⟩ := evArgs_cons e2
        obtain ⟨v3, us3, rfl, e5, e6⟩ := evArgs_cons e4
        cases evArgs_nil e6
        obtain ⟨h1, rfl⟩ := valF_some h
        simp only [Bool.and_eq_true] at hb
        exact .of_pure hm (sliceA_run ht (okArg_ok hL hx e1) (.inr ⟨_, _, rfl, rfl, okArg_ok hL hb.1 e3⟩) (.inr ⟨_, _, rfl, rfl, okArg_ok hL hb.2 e5⟩) h1)
      · cases hb
    · cases hok
  · -- copy
    rename_i k x y
    split at hok
    · rename_i a' b' t t2 hb
      obtain ⟨v, us, rfl, e1, e2⟩ := evArgs_cons he
      obtain ⟨v2, us2, rfl, e3, e4⟩ := evArgs_cons e2
      cases evArgs_nil e4
      simp only [Bool.and_eq_true] at hok
      simp only [aFn] at h
      split at h
      · cases h
      · rename_i ys hys
        have ho := asBuiltin_some hb
        have := copy_run (P := P) (ty := o.type) hm hok.1.1 (okArg_ok hL hok.1.2 e1) (okArg_ok hL hok.2 e3) hys h (t2 := t2)
        obtain ⟨s', w', u, g1, g2, g3, g4⟩ := this
        refine ⟨s', w', g1, g2, .inl ⟨u, ?_, g4⟩⟩
        simp [execOp, ho, resolve, invoke, builtin, g3]
    · cases hok
  · -- strBytes
    split at hok
    · rename_i x _ src dst y ho
      obtain ⟨v, us, rfl, e1, e2⟩ := evArgs_cons he
      cases evArgs_nil e2
      obtain ⟨h1, rfl⟩ := valF_some h
      simp only [Bool.and_eq_true] at hok
      obtain ⟨⟨hs, hd⟩, hx⟩ := hok
      have hs' : P.underlying src = some .string := by
        split at hs
        · assumption
        · cases hs
      split at hd
      · rename_i e hd1
        split at hd
        · rename_i he1
          simp only [execOp, ho]
          exact .of_run (strBytes_run hm hs' hd1 he1 (okArg_ok hL hx e1) h1)
        · cases hd
      · cases hd
    · cases hok
  · -- range
    split at hok
    · rename_i str x _ t y ho
      obtain ⟨v, us, rfl, e1, e2⟩ := evArgs_cons he
      cases evArgs_nil e2
      simp only [Bool.and_eq_true] at hok
      simp only [execOp, ho]
      exact .of_run (range_run hm (by simpa using hok.1) (okArg_ok hL hok.2 e1) h)
    · cases hok
  · -- next
    split at hok
    · rename_i str x _ y b ho
      obtain ⟨v, us, rfl, e1, e2⟩ := evArgs_cons he
      cases evArgs_nil e2
      simp only [Bool.and_eq_true, beq_iff_eq] at hok
      obtain ⟨rfl, hx⟩ := hok
      simp only [execOp, ho]
      exact .of_run (next_run hm (okArg_ok hL hx e1) h)
    · cases hok
  · -- entry
    split at hok
    · rename_i x _ y ho
      obtain ⟨v, us, rfl, e1, e2⟩ := evArgs_cons he
      cases evArgs_nil e2
      obtain ⟨h1, rfl⟩ := valF_some h
      simp only [execOp, ho]
      exact .of_pure hm (entry_run hm (okArg_ok hL hok e1) h1)
    · cases hok
  · -- makeCap
    split at hok
    · rename_i k bytes zero l c _ t l' c' ho
      obtain ⟨v, us, rfl, e1, e2⟩ := evArgs_cons he
      obtain ⟨v2, us2, rfl, e3, e4⟩ := evArgs_cons e2
      cases evArgs_nil e4
      simp only [Bool.and_eq_true] at hok
      simp only [execOp, ho]
      exact .of_run (makeCap_run hm hok.1.1 (okArg_ok hL hok.1.2 e1) (okArg_ok hL hok.2 e3) h)
    · cases hok
  · -- cloneMap
    split at hok
    · rename_i x _ f' xs' _ ho
      simp only [Bool.and_eq_true] at hok
      obtain ⟨v, us, rfl, e1, e2⟩ := evArgs_cons he
      cases evArgs_nil e2
      obtain ⟨y, hxs, hx⟩ : ∃ y, xs' = #[y] ∧ okArg y x = true := by
        match xs', hok.2 with
        | ⟨[]⟩, hx => cases hx
        | ⟨[y]⟩, hx => simp only [okArgs, Bool.and_true] at hx; exact ⟨y, rfl, hx⟩
        | ⟨_ :: _ :: _⟩, hx => simp [okArgs] at hx
      subst hxs
      obtain ⟨s', w', u, g1, g2, g3, g4⟩ := cloneMap_run hm hok.1 (okArg_ok hL hx e1) h
      refine ⟨s', w', g1, g2, .inl ⟨u, ?_, g4⟩⟩
      have hfv : a.eval (.func f') = .func (.func f') #[] #[] := rfl
      simp only [execOp, ho, resolve, Deferred.ofValue, hfv, Sem.run_bind, Sem.run_pure, Result.andThen_ok, invoke]
      simpa using g3
    · cases hok
  · cases hok

end
end Go.Am
