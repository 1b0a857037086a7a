/- An abstract machine for the part of Go that this program uses: which operation stands for which, and that its run is as told. -/
import Derived.Laws.BytesArg
import Derived.Test.YtjkpoaijmbapiaaGreatDoorAmOps13
namespace Go.Am
set_option linter.all false
open Go Go.RowKit

def isNilSlice : Operand → Bool
  | .const (.slice none 0 0) => true
  | _ => false

def okLen (P : Program) (t : TypeId) (kd : Nat) : Bool :=
  match P.underlying t with
  | some .string => kd == 0
  | some (.slice _) => kd == 1
  | some (.map _ _) => kd == 2
  | _ => false

def okOp (P : Program) (o : Op) : IOp → Bool
  | .mov x => match o with
    | .move y => okArg y x
    | .assign y => okArg y x
    | _ => false
  | .same x => match o with
    | .convert src dst y => decide (P.underlying dst matches some .string) && (P.underlying src).isSome && okArg y x
    | _ => false
  | .pick c a b => match o with
    | .pick c' a' b' => okArg c' c && okArg a' a && okArg b' b
    | _ => false
  | .new cs => match o with
    | .alloc t => okZero P t cs
    | _ => false
  | .tipNew _ => match o with
    | .move y => isNilSlice y
    | .assign y => isNilSlice y
    | _ => false
  | .box x => match o with
    | .box _ y => okArg y x
    | _ => false
  | .build zero parts => match o with
    | .build t ps => okZero P t zero && (match placesOf P t with | some place => okParts place ps.toList parts | none => false)
    | _ => false
  | .buildT zero _ _ parts => match o with
    | .build t ps => okZero P t zero && (match placesOf P t with | some place => okParts place ps.toList parts | none => false)
    | _ => false
  | .buildSlice k zero len parts _ => match o with
    | .buildSlice t n ps => n == len && okElems ps.toList parts && (match P.underlying t with | some (.slice e) => decide (szOf P e = some k) && okZero P e zero | _ => false)
    | _ => false
  | .load k a => match o with
    | .load t y => okPart P t k && okArg y a
    | _ => false
  | .store k a x => match o with
    | .store t y z => okSize P t k && okArg y a && okArg z x
    | _ => false
  | .nilCheck x => match o with
    | .nilCheck y => okArg y x
    | _ => false
  | .bin op x y => match o with
    | .binOp op' _ a b _ => decide (op' = op) && okArg a x && okArg b y
    | _ => false
  | .eqv q neg x y => match o with
    | .binOp op t a b _ => decide (op = if neg then .neq else .eql) && okEQ P t q && decide (P.eqGuardType P.depth t = false) && okArg a x && okArg b y
    | _ => false
  | .fn f xs => okF P o f xs
  | .lazy _ => false
  | .un op x => match o with
    | .unOp op' _ a => decide (op' = op) && okArg a x
    | _ => false
  | .conv k x => match o with
    | .convert src dst y => (match P.underlying dst with | some (.int k') => decide (k' = k) | _ => false) && (P.underlying src).isSome && okArg y x
    | _ => false
  | .bytesStr x => match o with
    | .convert src dst y => (match P.underlying dst with | some .string => true | _ => false) && (match P.underlying src with | some (.slice e) => (match P.underlying e with | some (.int .u8) => true | _ => false) | _ => false) && okArg y x
    | _ => false
  | .field off k x => match o with
    | .field t y f => okField P t f off k && okArg y x
    | _ => false
  | .fieldAddr off k x => match o with
    | .fieldAddr t y f => okFieldAddr P t f off k && okArg y x
    | _ => false
  | .indexAddr k x i => match o with
    | .indexAddr t y j => okElem P t k && okArg y x && okArg j i
    | _ => false
  | .index k x i => match o with
    | .index t y j => okIndex P t k && okArg y x && okArg j i
    | _ => false
  | .slice k x lo hi => match o with
    | .slice t y lo' hi' mx => okSliceT P t k && okArg y x && okOpt lo' lo && okOpt hi' hi && mx.isNone
    | _ => false
  | .lookup q zero ok x i => match o with
    | .lookup t y j ok' => okMapT P t q && okMapZ P t zero && okArg y x && okArg j i && ok == ok'
    | _ => false
  | .mapUpdate q x i v => match o with
    | .mapUpdate t y j z => okMapT P t q && okArg y x && okArg j i && okArg z v
    | .insert t y j z => okMapT P t q && okArg y x && okArg j i && okArg z v
    | _ => false
  | .makeMap => match o with
    | .makeMap _ r => r.isNone
    | _ => false
  | .makeSlice k bytes zero len _ => match o with
    | .makeSlice t l c => okMake P t k bytes zero && okArg l len && okArg c len
    | _ => false
  | .makeFunc g first caps => match o with
    | .makeFunc (.func g') f c => g' == g && decide (g' < yb) && okArgs f.toList first && okArgs c.toList caps
    | _ => false
  | .makeIface t x => match o with
    | .makeInterface t' y => t' == t && (match P.underlying t with | some (.interface _) => false | some _ => true | none => false) && okArg y x
    | _ => false
  | .extract x i => match o with
    | .extract y j => j == i && okArg y x
    | _ => false
  | .call g args _ => match o with
    | .call { callee := .value f, args := xs, .. } => okArg f g && okArgs xs.toList args
    | _ => false
  | .callP g args => match o with
    | .call { callee := .value f, args := xs, .. } => okArg f g && okArgs xs.toList args
    | _ => false
  | .len kd x => match asBuiltin o with
    | some (.len, [y], [t]) => okLen P t kd && okArg y x
    | _ => false
  | .append k bytes x y _ => match asBuiltin o with
    | some (.append, [a, b], [t, t']) => t == t' && okAppend P t k bytes && okArg a x && okArg b y
    | _ => false
  | .max2 x y => match asBuiltin o with
    | some (.max, [a, b], _) => okArg a x && okArg b y
    | _ => false
  | .min2 x y => match asBuiltin o with
    | some (.min, [a, b], _) => okArg a x && okArg b y
    | _ => false
  | .delete _ _ => false
  | .freeze _ _ => false
  | .clear k zero x => match asBuiltin o with
    | some (.clear, [y], [t]) => okClear P t k zero && okArg y x
    | _ => false
  | .indexAddrA n k x i => match o with
    | .indexAddr t y j => okElemA P t n k && okArg y x && okArg j i
    | _ => false
  | .never => match o with
    | .defer _ => false
    | _ => true

def IOp.isCall : IOp → Bool
  | .call _ _ _ => true
  | .callP _ _ => true
  | _ => false

section
variable {P : Program} {w0 : Base} {w : World} {s : Sim} {M : Mem}

theorem OpOk.val {x : Sem Next} {v : Value} {r : AV} {s' : Sim} {w' : World} {M' : Mem} (hs : s.le s') (hm : MR w0 s' M' w') (h : x.run P w = .ok (.value v) w') (hv : VR s' r v) : OpOk P w0 s x w r M' :=
  ⟨s', w', hs, hm, .inl ⟨v, h, hv⟩⟩

theorem run_v {x : Sem Value} {v : Value} {w' : World} (h : x.run P w = .ok v w') : (do pure (Next.value (← x)) : Sem Next).run P w = .ok (.value v) w' := by
  simp [h]

theorem run_u {x : Sem Unit} {w' : World} (h : x.run P w = .ok () w') : (do x; pure Next.skip : Sem Next).run P w = .ok .skip w' := by
  simp [h]

theorem opt_ok {L : Env} {a : Act} (hL : LR s L a.tmps) {x : Option Operand} {y : Option Arg} {v : Option AV} (h : okOpt x y = true) (hv : optArg L y = some v) :
    (v = none ∧ x.map a.eval = none) ∨ (∃ c d, v = some c ∧ x.map a.eval = some d ∧ VR s c d) := by
  cases x <;> cases y <;> simp only [okOpt] at h
  · simp only [optArg, Option.some.injEq] at hv; subst hv; exact .inl ⟨rfl, rfl⟩
  · cases h
  · cases h
  · simp only [optArg] at hv
    split at hv
    · cases hv
    · rename_i c e
      simp only [Option.some.injEq] at hv; subst hv
      exact .inr ⟨c, _, rfl, rfl, okArg_ok hL h e⟩

theorem len_run {t : TypeId} {kd : Nat} {x n : AV} {xv : Value} (hm : MR w0 s M w) (hx : VR s x xv) (ht : okLen P t kd = true) (h : aLen M kd x = some n) (ty : TypeId) : ∃ u, (Builtin.len_ #[t] ty #[xv]).run P w = .ok u w ∧ VR s n u := by
  unfold okLen at ht
  split at ht
  · rename_i hu
    have : kd = 0 := by simpa using ht
    subst this
    unfold aLen at h
    split at h
    · simp only [Option.some.injEq] at h; subst h
      rw [hx.str_inv]
      exact ⟨_, by simp [Builtin.len_, run_underlying hu, goInt], .int _ _⟩
    all_goals first | (rename_i e; cases e; done) | (rename_i e _; cases e; done) | (cases h; done) | skip
    all_goals simp_all
  · rename_i e hu
    have : kd = 1 := by simpa using ht
    subst this
    unfold aLen at h
    split at h
    all_goals first | (cases h; done) | skip
    · simp_all
    · simp only [Option.some.injEq] at h; subst h
      cases hx with
      | nil => exact ⟨_, by simp [Builtin.len_, run_underlying hu, goInt], .int _ _⟩
      | void => exact ⟨_, by simp [Builtin.len_, run_underlying hu, goInt], .int _ _⟩
      | list => exact ⟨_, by simp [Builtin.len_, run_underlying hu, goInt], .int _ _⟩
    · simp only [Option.some.injEq] at h; subst h
      cases hx with
      | ref => exact ⟨_, by simp [Builtin.len_, run_underlying hu, goInt], .int _ _⟩
    all_goals simp_all
  · rename_i e1 e2 hu
    have : kd = 2 := by simpa using ht
    subst this
    unfold aLen at h
    split at h
    all_goals first | (cases h; done) | skip
    · simp_all
    · simp_all
    · simp_all
    · simp only [Option.some.injEq] at h; subst h
      cases hx
      exact ⟨_, by simp [Builtin.len_, run_underlying hu, goInt], .int _ _⟩
    · split at h
      · rename_i es hid
        simp only [Option.some.injEq] at h; subst h
        obtain ⟨b, mes, clock, h1, h2, h3, h5, h4⟩ := hm.obj _ _ hid
        cases hx with
        | map _ b' hl =>
          rw [h1] at hl
          cases hl
          refine ⟨.int .i64 mes.size, by simp [Builtin.len_, run_underlying hu, goInt, run_getObj_map h2], ?_⟩
          rw [h3]; exact .int _ _
      · cases h
  · cases ht

theorem bytesOf_map {xs : List AV} : ∀ {bs : List UInt8}, bytesOf xs = some bs → ∃ ns : List Int, xs = ns.map (AV.int .u8) ∧ bs = ns.map fun n => UInt8.ofNat n.toNat := by
  induction xs with
  | nil => intro bs h; cases h; exact ⟨[], rfl, rfl⟩
  | cons x xs ih =>
    intro bs h
    cases x with
    | int k n =>
      cases k with
      | u8 =>
        simp only [bytesOf] at h
        split at h
        · cases h
        · rename_i ms hm
          cases h
          obtain ⟨ns, rfl, rfl⟩ := ih hm
          exact ⟨n :: ns, rfl, rfl⟩
      | _ => simp [bytesOf] at h
    | _ => simp [bytesOf] at h

theorem exec_run (hm : MR w0 s M w) {call : Nat → List AV → Mem → Option (AV × Mem)} {L : Env} {a : Act} (hL : LR s L a.tmps) {o : Oper} {i : IOp} {r : AV} {M' : Mem} (hok : okOp P o.op i = true) (hi : i.isCall = false)
    (h : evOp call L M i = some (r, M')) : OpOk P w0 s (execOp a.eval o) w r M' := by
  cases i with
  | mov x =>
    simp only [evOp] at h
    split at h
    · cases h
    · rename_i v e
      simp only [Option.some.injEq, Prod.mk.injEq] at h
      obtain ⟨rfl, rfl⟩ := h
      simp only [okOp] at hok
      split at hok
      · rename_i y ho
        exact .of_value hm (by simp [execOp, ho]) (okArg_ok hL hok e)
      · rename_i y ho
        exact .of_value hm (by simp [execOp, ho]) (okArg_ok hL hok e)
      · cases hok
  | same x =>
    simp only [evOp] at h
    split at h
    · rename_i b e
      simp only [Option.some.injEq, Prod.mk.injEq] at h
      obtain ⟨rfl, rfl⟩ := h
      simp only [okOp] at hok
      split at hok
      · rename_i src dst y ho
        simp only [Bool.and_eq_true, decide_eq_true_eq] at hok
        obtain ⟨⟨h1, h2⟩, h3⟩ := hok
        have hv := okArg_ok hL h3 e
        obtain ⟨ss, hss⟩ := Option.isSome_iff_exists.1 h2
        split at h1
        · rename_i hd
          refine .of_value (v := .string b) hm ?_ (.str b)
          simp only [execOp, ho, hv.str_inv]
          exact run_v (by simp [convert, run_underlying hss, run_underlying hd])
        · cases h1
      · cases hok
    · cases h
  | pick c x y =>
    simp only [evOp] at h
    split at h
    · rename_i t e
      split at h
      · cases h
      · rename_i v e2
        simp only [Option.some.injEq, Prod.mk.injEq] at h
        obtain ⟨rfl, rfl⟩ := h
        simp only [okOp] at hok
        split at hok
        · rename_i c' a' b' ho
          simp only [Bool.and_eq_true] at hok
          have hc := (okArg_ok hL hok.1.1 e).bool_inv
          cases t with
          | true => exact .of_value hm (by simp [execOp, ho, hc, asBool]) (okArg_ok hL hok.1.2 (by simpa using e2))
          | false => exact .of_value hm (by simp [execOp, ho, hc, asBool]) (okArg_ok hL hok.2 (by simpa using e2))
        · cases hok
    · cases h
  | new cs =>
    simp only [evOp, Option.some.injEq] at h
    have hr : r = (M.newRow cs).1 := by rw [h]
    have hM : M' = (M.newRow cs).2 := by rw [h]
    subst hr; subst hM
    simp only [okOp] at hok
    split at hok
    · rename_i t ho
      obtain ⟨s', w', h1, h2, v, h3, h4⟩ := alloc_run hm hok
      exact .val h1 h2 (by simp only [execOp, ho]; exact run_v h3) h4
    · cases hok
  | tipNew k =>
    simp only [evOp, Option.some.injEq, Prod.mk.injEq] at h
    obtain ⟨rfl, rfl⟩ := h
    obtain ⟨s', h1, h2, h3⟩ := tipNew_run hm k
    simp only [okOp] at hok
    have key : ∀ y, isNilSlice y = true → a.eval y = .slice none 0 0 := fun y hy => by
      unfold isNilSlice at hy
      split at hy
      · rfl
      · cases hy
    split at hok
    · rename_i y ho
      exact .val h1 h2 (by simp [execOp, ho, key y hok]) h3
    · rename_i y ho
      exact .val h1 h2 (by simp [execOp, ho, key y hok]) h3
    · cases hok
  | box x =>
    simp only [evOp] at h
    split at h
    · cases h
    · rename_i v e
      split at h
      · rename_i hs
        simp only [Option.some.injEq] at h
        have hr : r = (M.newRow v.cells).1 := by rw [h]
        have hM : M' = (M.newRow v.cells).2 := by rw [h]
        subst hr; subst hM
        simp only [okOp] at hok
        split at hok
        · rename_i t y ho
          obtain ⟨s', w', h1, h2, u, h3, h4⟩ := box_run hm (t := t) (okArg_ok hL hok e) hs
          exact .val h1 h2 (by simp only [execOp, ho]; exact run_v h3) h4
        · cases hok
      · cases h
  | build zero parts =>
    simp only [evOp] at h
    split at h
    · cases h
    · rename_i ps e
      split at h
      · cases h
      · rename_i cs e2
        simp only [Option.some.injEq, Prod.mk.injEq] at h
        obtain ⟨rfl, rfl⟩ := h
        simp only [okOp] at hok
        split at hok
        · rename_i t ops ho
          simp only [Bool.and_eq_true] at hok
          obtain ⟨h1, h2⟩ := hok
          split at h2
          · rename_i place hp
            obtain ⟨u, h3, h4⟩ := build_run (P := P) (w := w) h1 hp (okParts_ok hL h2 e) e2
            refine .of_value hm ?_ h4
            simp only [execOp, ho]
            refine run_v ?_
            have : ops.map (fun x => (x.1, a.eval x.2)) = (ops.toList.map fun x => (x.1, a.eval x.2)).toArray := Array.ext' (by simp)
            simpa [this] using h3
          · cases h2
        · cases hok
  | buildSlice k zero len parts toRow =>
    simp only [evOp] at h
    split at h
    · cases h
    · rename_i ps e
      split at h
      · cases h
      · rename_i hc
        split at h
        · cases h
        · rename_i cs e2
          simp only [okOp] at hok
          split at hok
          · rename_i t n ops ho
            simp only [Bool.and_eq_true, beq_iff_eq] at hok
            obtain ⟨⟨rfl, h1⟩, h2⟩ := hok
            split at h2
            · rename_i el hu
              simp only [Bool.and_eq_true, decide_eq_true_eq] at h2
              have hk : 0 < k := by omega
              have hz : zero.length = k := by
                rcases Nat.lt_trichotomy zero.length k with h | h | h
                · exact absurd (.inr (.inl (by omega))) hc
                · exact h
                · exact absurd (.inr (.inl (by omega))) hc
              have hn : n * k ≤ 16777216 := by
                rcases Nat.lt_or_ge 16777216 (n * k) with h | h
                · exact absurd (.inr (.inr h)) hc
                · exact h
              obtain ⟨c, h3, h4, h5⟩ := buildSlice_run (P := P) (w := w) hu h2.1 h2.2 (okElems_ok hL h1 e) hk hz hn e2
              have hrun : (execOp a.eval o).run P w = .ok (.value (.slice (some ⟨w.heap.size, 0, none⟩) n n)) (w.alloc (.cells c el)) := by
                simp only [execOp, ho]
                refine run_v ?_
                have : ops.map (fun x => (x.1, a.eval x.2)) = (ops.toList.map fun x => (x.1, a.eval x.2)).toArray := Array.ext' (by simp)
                simpa [this] using h3
              cases toRow with
              | true =>
                simp only [if_true, Option.some.injEq, Prod.mk.injEq] at h
                obtain ⟨rfl, rfl⟩ := h
                obtain ⟨s', q1, q2, q3⟩ := ref_of_cells hm (n := n) el h4
                exact .val q1 q2 hrun q3
              | false =>
                simp only [Bool.false_eq_true, if_false, Option.some.injEq, Prod.mk.injEq] at h
                obtain ⟨rfl, rfl⟩ := h
                obtain ⟨s', q1, q2, q3⟩ := full_of_cells hm el hk h4 h5
                exact .val q1 q2 hrun q3
            · cases h2
          · cases hok
  | load k x =>
    simp only [evOp] at h
    split at h
    · cases h
    · rename_i p e
      split at h
      · cases h
      · rename_i v e2
        simp only [Option.some.injEq, Prod.mk.injEq] at h
        obtain ⟨rfl, rfl⟩ := h
        simp only [okOp] at hok
        split at hok
        · rename_i t y ho
          simp only [Bool.and_eq_true] at hok
          obtain ⟨u, h1, h2⟩ := load_run (P := P) hm hok.1 (okArg_ok hL hok.2 e) e2
          exact .of_value hm (by simp only [execOp, ho]; exact run_v h1) h2
        · cases hok
  | store k x y =>
    simp only [evOp] at h
    split at h
    · rename_i p v e1 e2
      split at h
      · cases h
      · rename_i M1 e3
        simp only [Option.some.injEq, Prod.mk.injEq] at h
        obtain ⟨rfl, rfl⟩ := h
        simp only [okOp] at hok
        split at hok
        · rename_i t y z ho
          simp only [Bool.and_eq_true] at hok
          obtain ⟨w', s', h1, h2, h3⟩ := store_run (P := P) hm hok.1.1 (okArg_ok hL hok.1.2 e1) (okArg_ok hL hok.2 e2) e3
          exact ⟨s', w', h2, h3, .inr ⟨by simp only [execOp, ho]; exact run_u h1, rfl⟩⟩
        · cases hok
    · cases h
  | nilCheck x =>
    simp only [okOp] at hok
    split at hok
    · rename_i y ho
      simp only [evOp] at h
      split at h
      · rename_i p b c e
        simp only [Option.some.injEq, Prod.mk.injEq] at h
        obtain ⟨rfl, rfl⟩ := h
        have hv := okArg_ok hL hok e
        exact .of_value hm (nilCheck_run hv (.inl ⟨_, _, _, rfl⟩) o y ho a.eval rfl) hv
      · rename_i p e
        simp only [Option.some.injEq, Prod.mk.injEq] at h
        obtain ⟨rfl, rfl⟩ := h
        have hv := okArg_ok hL hok e
        exact .of_value hm (nilCheck_run hv (.inr (.inl ⟨_, rfl⟩)) o y ho a.eval rfl) hv
      · rename_i g b c e
        simp only [Option.some.injEq, Prod.mk.injEq] at h
        obtain ⟨rfl, rfl⟩ := h
        have hv := okArg_ok hL hok e
        exact .of_value hm (nilCheck_run hv (.inr (.inr (.inl ⟨_, _, _, rfl⟩))) o y ho a.eval rfl) hv
      · rename_i id e
        simp only [Option.some.injEq, Prod.mk.injEq] at h
        obtain ⟨rfl, rfl⟩ := h
        have hv := okArg_ok hL hok e
        exact .of_value hm (nilCheck_run hv (.inr (.inr (.inr ⟨_, rfl⟩))) o y ho a.eval rfl) hv
      · cases h
    · cases hok
  | bin op x y =>
    simp only [evOp] at h
    split at h
    · rename_i p v e1 e2
      split at h
      · cases h
      · rename_i u e3
        simp only [Option.some.injEq, Prod.mk.injEq] at h
        obtain ⟨rfl, rfl⟩ := h
        simp only [okOp] at hok
        split at hok
        · rename_i op' t c d yt ho
          simp only [Bool.and_eq_true, decide_eq_true_eq] at hok
          obtain ⟨⟨rfl, h1⟩, h2⟩ := hok
          obtain ⟨⟨u, h3, h4⟩, h5⟩ := aBin_run (P := P) (w := w) e3 (okArg_ok hL h1 e1) (okArg_ok hL h2 e2) t
          refine .of_value hm ?_ h4
          simp only [execOp, ho]
          refine run_v ?_
          simp only [Sem.run_bind, eqGuard_run h5, Result.andThen_ok]
          exact h3
        · cases hok
    · cases h
  | eqv q neg x y =>
    simp only [evOp] at h
    split at h
    · rename_i p v e1 e2
      split at h
      · cases h
      · rename_i b e3
        simp only [Option.some.injEq, Prod.mk.injEq] at h
        obtain ⟨rfl, rfl⟩ := h
        simp only [okOp] at hok
        split at hok
        · rename_i op' t c d yt ho
          simp only [Bool.and_eq_true, decide_eq_true_eq] at hok
          obtain ⟨⟨⟨⟨h0, h1⟩, h2⟩, h3⟩, h4⟩ := hok
          have hc := okArg_ok hL h3 e1
          have hd := okArg_ok hL h4 e2
          have heq := eqv_run (P := P) (w := w) h1 hc hd e3
          have hmain : (do eqGuard op' t c d (a.eval c) (a.eval d); binOp op' t (a.eval c) (a.eval d) : Sem Value).run P w = .ok (.bool (if neg then !b else b)) w := by
            unfold AV.eqv at e3
            split at e3
            · rename_i hag
              generalize a.eval c = vc at *
              generalize a.eval d = vd at *
              have hcells := eqCells_vEq (s := s) (vx := vc.cells.toList) (vy := vd.cells.toList) (by simpa using hc.cells.1) (by simpa using hd.cells.1) (fun i x v hx hv => hc.cells.2 i x v hx (by simpa using hv)) (fun i x v hx hv => hd.cells.2 i x v hx (by simpa using hv)) e3
              cases hqa : q.ag with
              | true =>
                rw [hqa] at hag
                have p1 := hc.packV
                have p2 := hd.packV
                rw [hag.1] at p1
                rw [hag.2] at p2
                simp only [packV, if_true] at p1 p2
                rw [p1, p2] at heq ⊢
                simp only [Sem.run_bind]
                rw [run_eqGuard_agg w op' t c d _ _ h2]
                simp only [Result.andThen_ok]
                cases neg with
                | true => simp only [h0, if_true]; rw [run_neq_struct, heq]; rfl
                | false => simp only [h0, Bool.false_eq_true, if_false]; rw [run_eql_struct, heq]; rfl
              | false =>
                rw [hqa] at hag
                have p1 := hc.packV
                have p2 := hd.packV
                rw [hag.1] at p1
                rw [hag.2] at p2
                have hlen : vc.cells.size = 1 := by
                  have hz := hc.cells.1
                  have hna := hag.1
                  clear heq
                  cases p <;> first | (simp [AV.isAgg] at hna; done) | (simpa [AV.cells] using hz.symm)
                have hlen2 : vd.cells.size = 1 := by
                  have hz := hd.cells.1
                  have hna := hag.2
                  clear heq
                  cases v <;> first | (simp [AV.isAgg] at hna; done) | (simpa [AV.cells] using hz.symm)
                have hks : q.ks.length = 1 := by
                  have := (vEq_len hcells).1
                  simp at this; omega
                obtain ⟨k0, hk0⟩ := List.length_eq_one_iff.1 hks
                rw [hk0] at hcells
                obtain ⟨x1, y1, hx1, hy1, hxy⟩ := vEq_one hcells
                rw [hx1] at p1
                rw [hy1] at p2
                simp only [packV, Bool.false_eq_true, if_false, List.headD_cons] at p1 p2
                rw [p1, p2] at heq ⊢
                unfold vEq1 at hxy
                split at hxy
                · simp only [Option.some.injEq] at hxy
                  cases neg with
                  | true =>
                    simp only [h0, if_true, Sem.run_bind, eqGuard_at_bool, Sem.run_pure, Result.andThen_ok]
                    simp only [binOp, Op.equal, Op.maxDepth, Sem.run_bind, heq, Result.andThen_ok, Sem.run_pure]
                  | false =>
                    simp only [h0, Bool.false_eq_true, if_false, Sem.run_bind, eqGuard_at_bool, Sem.run_pure, Result.andThen_ok]
                    simp only [binOp, Op.equal, Op.maxDepth, Sem.run_bind, heq, Result.andThen_ok, Sem.run_pure]
                · split at hxy
                  · rename_i e5
                    subst e5
                    simp only [Option.some.injEq] at hxy
                    subst hxy
                    cases neg with
                    | true => simp only [h0, if_true, Sem.run_bind, eqGuard_at_int, Sem.run_pure, Result.andThen_ok]; simp [binOp, Op.intCmp, bne]
                    | false => simp only [h0, Bool.false_eq_true, if_false, Sem.run_bind, eqGuard_at_int, Sem.run_pure, Result.andThen_ok]; simp [binOp, Op.intCmp]
                  · cases hxy
                · simp only [Option.some.injEq] at hxy
                  subst hxy
                  cases neg with
                  | true => simp only [h0, if_true, Sem.run_bind, eqGuard_at_string, Sem.run_pure, Result.andThen_ok]; simp [binOp, Op.stringOp]
                  | false => simp only [h0, Bool.false_eq_true, if_false, Sem.run_bind, eqGuard_at_string, Sem.run_pure, Result.andThen_ok]; simp [binOp, Op.stringOp]
                · cases hxy
            · cases e3
          refine .of_value hm ?_ (.bool _)
          simp only [execOp, ho]
          exact run_v hmain
        · cases hok
    · cases h
  | un op x =>
    simp only [evOp] at h
    split at h
    · cases h
    · rename_i p e1
      split at h
      · cases h
      · rename_i u e3
        simp only [Option.some.injEq, Prod.mk.injEq] at h
        obtain ⟨rfl, rfl⟩ := h
        simp only [okOp] at hok
        split at hok
        · rename_i op' t c ho
          simp only [Bool.and_eq_true, decide_eq_true_eq] at hok
          obtain ⟨rfl, h1⟩ := hok
          obtain ⟨u, h3, h4⟩ := aUn_run (P := P) (w := w) e3 (okArg_ok hL h1 e1)
          exact .of_value hm (by simp only [execOp, ho]; exact run_v h3) h4
        · cases hok
  | conv k x =>
    simp only [evOp] at h
    split at h
    · rename_i kk n e1
      simp only [Option.some.injEq, Prod.mk.injEq] at h
      obtain ⟨rfl, rfl⟩ := h
      simp only [okOp] at hok
      split at hok
      · rename_i src dst c ho
        simp only [Bool.and_eq_true] at hok
        obtain ⟨⟨h1, h2⟩, h3⟩ := hok
        obtain ⟨ss, hss⟩ := Option.isSome_iff_exists.1 h2
        split at h1
        · rename_i k' hd
          simp only [decide_eq_true_eq] at h1
          subst h1
          refine .of_value (v := .int k' (k'.wrap n)) hm ?_ (.int _ _)
          simp only [execOp, ho, (okArg_ok hL h3 e1).int_inv]
          exact run_v (by simp [convert, run_underlying hss, run_underlying hd, Conv.intToInt])
        · cases h1
      · cases hok
    · cases h
  | bytesStr x =>
    simp only [evOp] at h
    split at h
    · cases h
    · rename_i v e
      split at h
      · cases h
      · rename_i xs hxs
        split at h
        · cases h
        · rename_i bs hbs
          simp only [Option.some.injEq, Prod.mk.injEq] at h
          obtain ⟨rfl, rfl⟩ := h
          obtain ⟨ns, rfl, rfl⟩ := bytesOf_map hbs
          simp only [okOp] at hok
          split at hok
          · rename_i src dst y ho
            simp only [Bool.and_eq_true] at hok
            obtain ⟨⟨h1, h2⟩, h3⟩ := hok
            have hv := okArg_ok hL h3 e
            split at h1
            · rename_i hd
              split at h2
              · rename_i ee hs
                split at h2
                · rename_i he
                  refine .of_value (v := .string ⟨(ns.map fun n => UInt8.ofNat n.toNat).toArray⟩) hm ?_ (.str _)
                  simp only [execOp, ho]
                  refine run_v ?_
                  rcases elems_run hm (by decide) hv hxs with ⟨h4, h5⟩ | ⟨b, o1, cap, cs, h4, h5, h6, h7⟩
                  · have hn : ns = [] := by simpa using h5
                    subst hn
                    rcases h4 with h4 | ⟨ad, h4⟩
                    · rw [h4, run_convert_bytes_nil w src ee hs he 0 0 dst hd]; rfl
                    · rw [h4, run_convert_bytes_string w src dst ee _ _ _ hs he hd]
                      exact run_bytesToString w ad 0 0 [] (run_loadCells_list (P := P) w ad [] (fun j v hj => by simp at hj))
                  · rw [h4, List.length_map]
                    refine run_convert_bytes_arg w src ee hs he b o1 _ cap ns rfl (fun i hi => ?_) dst hd
                    have hg : (ns.map (AV.int .u8))[i]? = some (.int .u8 ns[i]) := by rw [List.getElem?_map, List.getElem?_eq_getElem hi]; rfl
                    obtain ⟨u, k1, k2⟩ := h6.get i _ 0 _ hg rfl
                    have k3 : u = .int .u8 ns[i] := by cases k2; rfl
                    rw [h7 i u (by simpa using k1), k3]
                    simp [List.getD, hi]
                · cases h2
              · cases h2
            · cases h1
          · cases hok
  | field off k x =>
    simp only [evOp] at h
    split at h
    · rename_i xs e1
      split at h
      · cases h
      · rename_i v e2
        simp only [Option.some.injEq, Prod.mk.injEq] at h
        obtain ⟨rfl, rfl⟩ := h
        simp only [okOp] at hok
        split at hok
        · rename_i t y f ho
          simp only [Bool.and_eq_true] at hok
          obtain ⟨u, h1, h2⟩ := field_run (P := P) (w := w) hok.1 (okArg_ok hL hok.2 e1) e2
          exact .of_value hm (by simp only [execOp, ho]; exact run_v h1) h2
        · cases hok
    · cases h
  | lazy d => simp only [okOp] at hok; cases hok
  | fn f xs =>
    simp only [evOp] at h
    split at h
    · cases h
    · rename_i vs e1
      exact fn_run hm hL hok e1 h
  | fieldAddr off k x =>
    simp only [evOp] at h
    split at h
    · cases h
    · rename_i p e1
      split at h
      · cases h
      · rename_i v e2
        simp only [Option.some.injEq, Prod.mk.injEq] at h
        obtain ⟨rfl, rfl⟩ := h
        simp only [okOp] at hok
        split at hok
        · rename_i t y f ho
          simp only [Bool.and_eq_true] at hok
          obtain ⟨u, h1, h2⟩ := fieldAddr_run (P := P) (w := w) hok.1 (okArg_ok hL hok.2 e1) e2
          exact .of_value hm (by simp only [execOp, ho]; exact run_v h1) h2
        · cases hok
  | indexAddr k x i =>
    simp only [evOp] at h
    split at h
    · rename_i p v e1 e2
      split at h
      · cases h
      · rename_i u e3
        simp only [Option.some.injEq, Prod.mk.injEq] at h
        obtain ⟨rfl, rfl⟩ := h
        simp only [okOp] at hok
        split at hok
        · rename_i t y j ho
          simp only [Bool.and_eq_true] at hok
          obtain ⟨u, h1, h2⟩ := indexAddr_run (P := P) (w := w) hok.1.1 (okArg_ok hL hok.1.2 e1) (okArg_ok hL hok.2 e2) e3
          exact .of_value hm (by simp only [execOp, ho]; exact run_v h1) h2
        · cases hok
    · cases h
  | index k x i =>
    simp only [evOp] at h
    split at h
    · rename_i p v e1 e2
      split at h
      · cases h
      · rename_i u e3
        simp only [Option.some.injEq, Prod.mk.injEq] at h
        obtain ⟨rfl, rfl⟩ := h
        simp only [okOp] at hok
        split at hok
        · rename_i t y j ho
          simp only [Bool.and_eq_true] at hok
          obtain ⟨u, h1, h2⟩ := index_run (P := P) (w := w) hok.1.1 (okArg_ok hL hok.1.2 e1) (okArg_ok hL hok.2 e2) e3
          exact .of_value hm (by simp only [execOp, ho]; exact run_v h1) h2
        · cases hok
    · cases h
  | slice k x lo hi =>
    simp only [evOp] at h
    split at h
    · rename_i p l hh e1 e2 e3
      split at h
      · cases h
      · rename_i u e4
        simp only [Option.some.injEq, Prod.mk.injEq] at h
        obtain ⟨rfl, rfl⟩ := h
        simp only [okOp] at hok
        split at hok
        · rename_i t y lo' hi' mx ho
          simp only [Bool.and_eq_true, Option.isNone_iff_eq_none] at hok
          obtain ⟨⟨⟨⟨h1, h2⟩, h3⟩, h4⟩, rfl⟩ := hok
          obtain ⟨u, h5, h6⟩ := slice_run (P := P) (w := w) h1 (okArg_ok hL h2 e1) (opt_ok hL h3 e2) (opt_ok hL h4 e3) e4
          exact .of_value hm (by simp only [execOp, ho]; exact run_v h5) h6
        · cases hok
    · cases h
  | lookup q zero ok x i =>
    simp only [okOp] at hok
    split at hok
    · rename_i t y j ok' ho
      simp only [Bool.and_eq_true, beq_iff_eq] at hok
      obtain ⟨⟨⟨⟨h1, h2⟩, h3⟩, h4⟩, rfl⟩ := hok
      simp only [evOp] at h
      split at h
      · rename_i id b e1 e2
        split at h
        · rename_i hf
          split at h
          · rename_i es hid
            split at h
            · cases h
            · rename_i v e3
              simp only [Option.some.injEq, Prod.mk.injEq] at h
              obtain ⟨rfl, rfl⟩ := h
              obtain ⟨u, h5, h6⟩ := lookup_run (P := P) hm (ok := ok) h1 h2 (okArg_ok hL h3 e1) (okArg_ok hL h4 e2) hf hid e3
              exact .of_value hm (by simp only [execOp, ho]; exact run_v h5) h6
            · rename_i e3
              simp only [Option.some.injEq, Prod.mk.injEq] at h
              obtain ⟨rfl, rfl⟩ := h
              obtain ⟨u, h5, h6⟩ := lookup_run (P := P) hm (ok := ok) h1 h2 (okArg_ok hL h3 e1) (okArg_ok hL h4 e2) hf hid e3
              exact .of_value hm (by simp only [execOp, ho]; exact run_v h5) h6
          · cases h
        · cases h
      · rename_i b e1 e2
        split at h
        · rename_i hf
          simp only [Option.some.injEq, Prod.mk.injEq] at h
          obtain ⟨rfl, rfl⟩ := h
          have hn : a.eval y = .map none := by
            have := okArg_ok hL h3 e1
            generalize a.eval y = vy at this ⊢
            cases this
            rfl
          obtain ⟨u, h5, h6⟩ := lookup_nil (P := P) (w := w) (ok := ok) h1 h2 (okArg_ok hL h4 e2) hf
          exact .of_value hm (by simp only [execOp, ho, hn]; exact run_v h5) h6
        · cases h
      · cases h
    · cases hok
  | mapUpdate q x i v =>
    simp only [evOp] at h
    split at h
    · rename_i id b c e1 e2 e3
      split at h
      · rename_i hf
        split at h
        · rename_i es hid
          split at h
          · cases h
          · rename_i es' e4
            simp only [Option.some.injEq, Prod.mk.injEq] at h
            obtain ⟨rfl, rfl⟩ := h
            simp only [okOp] at hok
            split at hok
            · rename_i t y j z ho
              simp only [Bool.and_eq_true] at hok
              obtain ⟨⟨⟨h1, h2⟩, h3⟩, h4⟩ := hok
              obtain ⟨s', w', h5, h6, h7⟩ := mapUpdate_run (P := P) hm h1 (okArg_ok hL h2 e1) (okArg_ok hL h3 e2) (okArg_ok hL h4 e3) hf hid e4
              exact ⟨s', w', h5, h6, .inr ⟨by simp only [execOp, ho]; exact run_u h7, rfl⟩⟩
            · rename_i t y j z ho
              simp only [Bool.and_eq_true] at hok
              obtain ⟨⟨⟨h1, h2⟩, h3⟩, h4⟩ := hok
              obtain ⟨s', w', h5, h6, h7⟩ := mapUpdate_run (P := P) hm h1 (okArg_ok hL h2 e1) (okArg_ok hL h3 e2) (okArg_ok hL h4 e3) hf hid e4
              exact ⟨s', w', h5, h6, .inr ⟨by simp only [execOp, ho]; exact run_u h7, rfl⟩⟩
            · cases hok
        · cases h
      · cases h
    · cases h
  | makeMap =>
    simp only [evOp, Option.some.injEq, Prod.mk.injEq] at h
    obtain ⟨rfl, rfl⟩ := h
    simp only [okOp] at hok
    split at hok
    · rename_i t rr ho
      simp only [Option.isNone_iff_eq_none] at hok
      subst hok
      obtain ⟨s', w', h1, h2, v, h3, h4⟩ := makeMap_run (P := P) hm t
      exact .val h1 h2 (by simp only [execOp, ho]; exact run_v h3) h4
    · cases hok
  | makeSlice k bytes zero len toRow =>
    simp only [evOp] at h
    split at h
    · rename_i n e1
      split at h
      · rename_i hc
        obtain ⟨c1, c2, c3, c4, c5⟩ := hc
        simp only [okOp] at hok
        split at hok
        · rename_i t l c ho
          simp only [Bool.and_eq_true] at hok
          obtain ⟨⟨h1, h2⟩, h3⟩ := hok
          obtain ⟨C, el, h4, h5⟩ := makeSlice_run (P := P) (w := w) (s := s) h1 c1 c2 c3 c4 c5
          have hrun : (execOp a.eval o).run P w = .ok (.value (.slice (some ⟨w.heap.size, 0, none⟩) n.toNat n.toNat)) (w.alloc (.cells C el)) := by
            simp only [execOp, ho, (okArg_ok hL h2 e1).int_inv, (okArg_ok hL h3 e1).int_inv]
            exact run_v h4
          cases toRow with
          | true =>
            simp only [if_true, Option.some.injEq, Prod.mk.injEq] at h
            obtain ⟨rfl, rfl⟩ := h
            obtain ⟨s', q1, q2, q3⟩ := ref_of_cells hm (n := n.toNat) el h5
            exact .val q1 q2 hrun q3
          | false =>
            simp only [Bool.false_eq_true, if_false, Option.some.injEq, Prod.mk.injEq] at h
            obtain ⟨rfl, rfl⟩ := h
            obtain ⟨s', q1, q2, q3⟩ := full_of_cells hm el c5 h5 (by rw [length_rep, c4])
            rw [toElems_rep zero k n.toNat c4 c5] at q3
            exact .val q1 q2 hrun q3
        · cases hok
      · cases h
    · cases h
  | makeFunc g first caps =>
    simp only [evOp] at h
    split at h
    · rename_i xs ys e1 e2
      simp only [Option.some.injEq, Prod.mk.injEq] at h
      obtain ⟨rfl, rfl⟩ := h
      simp only [okOp] at hok
      split at hok
      · rename_i g' f c ho
        simp only [Bool.and_eq_true, beq_iff_eq, decide_eq_true_eq] at hok
        obtain ⟨⟨⟨rfl, hg⟩, h1⟩, h2⟩ := hok
        obtain ⟨p1, p2⟩ := okArgs_ok hL h1 e1
        obtain ⟨p3, p4⟩ := okArgs_ok hL h2 e2
        have := VR.func (s := s) g' xs ys _ _ p1 p3 p2 p4 hg
        refine .of_value hm ?_ this
        have q1 : Array.map a.eval f = (List.map a.eval f.toList).toArray := Array.ext' (by simp)
        have q2 : Array.map a.eval c = (List.map a.eval c.toList).toArray := Array.ext' (by simp)
        simp only [execOp, ho, q1, q2]
        exact run_v rfl
      · cases hok
    · cases h
  | makeIface t x =>
    simp only [evOp] at h
    split at h
    · cases h
    · rename_i v e1
      simp only [Option.some.injEq, Prod.mk.injEq] at h
      obtain ⟨rfl, rfl⟩ := h
      simp only [okOp] at hok
      split at hok
      · rename_i t' y ho
        simp only [Bool.and_eq_true, beq_iff_eq] at hok
        obtain ⟨⟨rfl, h1⟩, h2⟩ := hok
        refine .of_value hm ?_ (.iface t' v _ (okArg_ok hL h2 e1))
        simp only [execOp, ho]
        refine run_v ?_
        split at h1
        · cases h1
        · rename_i d hni hd
          simp only [Instr.makeInterface, Sem.run_bind, run_underlying hd, Result.andThen_ok]
          rfl
        · cases h1
      · cases hok
  | extract x i =>
    simp only [evOp] at h
    split at h
    · rename_i xs e1
      split at h
      · cases h
      · rename_i v e2
        simp only [Option.some.injEq, Prod.mk.injEq] at h
        obtain ⟨rfl, rfl⟩ := h
        simp only [okOp] at hok
        split at hok
        · rename_i y j ho
          simp only [Bool.and_eq_true, beq_iff_eq] at hok
          obtain ⟨rfl, h1⟩ := hok
          obtain ⟨u, h2, h3⟩ := extract_run (P := P) (w := w) (okArg_ok hL h1 e1) e2
          exact .of_value hm (by simp only [execOp, ho]; exact run_v h2) h3
        · cases hok
    · cases h
  | call g args keep => cases hi
  | callP g args => cases hi
  | len kd x =>
    simp only [evOp] at h
    split at h
    · cases h
    · rename_i v e1
      split at h
      · cases h
      · rename_i n e2
        simp only [Option.some.injEq, Prod.mk.injEq] at h
        obtain ⟨rfl, rfl⟩ := h
        simp only [okOp] at hok
        split at hok
        · rename_i y t hb
          have ho := asBuiltin_some hb
          simp only [Bool.and_eq_true] at hok
          obtain ⟨u, h2, h3⟩ := len_run (P := P) hm (okArg_ok hL hok.2 e1) hok.1 e2 o.type
          refine .of_value hm ?_ h3
          simp [execOp, ho, resolve, invoke, builtin, h2]
        · cases hok
  | append k bytes x y hint =>
    simp only [evOp] at h
    split at h
    · rename_i p v e1 e2
      split at h
      · cases h
      · rename_i ys e3
        simp only [okOp] at hok
        split at hok
        · rename_i c d t t' hb
          have ho := asBuiltin_some hb
          simp only [Bool.and_eq_true, beq_iff_eq] at hok
          obtain ⟨⟨⟨rfl, h1⟩, h2⟩, h3⟩ := hok
          obtain ⟨s', w', u, q1, q2, q3, q4⟩ := append_run (P := P) hm (ty := o.type) h1 (okArg_ok hL h2 e1) (okArg_ok hL h3 e2) e3 h
          refine .val q1 q2 ?_ q4
          simp [execOp, ho, resolve, invoke, builtin, q3]
        · cases hok
    · cases h
  | max2 x y =>
    simp only [evOp] at h
    split at h
    · rename_i kk n kk' m e1 e2
      simp only [Option.some.injEq, Prod.mk.injEq] at h
      obtain ⟨rfl, rfl⟩ := h
      simp only [okOp] at hok
      split at hok
      · rename_i c d ts hb
        have ho := asBuiltin_some hb
        simp only [Bool.and_eq_true] at hok
        refine .of_value (v := .int kk (if m > n then m else n)) hm ?_ (.int _ _)
        simp [execOp, ho, resolve, invoke, builtin, (okArg_ok hL hok.1 e1).int_inv, (okArg_ok hL hok.2 e2).int_inv, Builtin.max_, Builtin.max2]
      · cases hok
    · cases h
  | min2 x y =>
    simp only [evOp] at h
    split at h
    · rename_i kk n kk' m e1 e2
      simp only [Option.some.injEq, Prod.mk.injEq] at h
      obtain ⟨rfl, rfl⟩ := h
      simp only [okOp] at hok
      split at hok
      · rename_i c d ts hb
        have ho := asBuiltin_some hb
        simp only [Bool.and_eq_true] at hok
        refine .of_value (v := .int kk (if m < n then m else n)) hm ?_ (.int _ _)
        simp [execOp, ho, resolve, invoke, builtin, (okArg_ok hL hok.1 e1).int_inv, (okArg_ok hL hok.2 e2).int_inv, Builtin.min_, Builtin.min2]
      · cases hok
    · cases h
  | delete x i => simp [okOp] at hok
  | freeze k x => simp [okOp] at hok
  | never => simp [evOp] at h
  | clear k zero x =>
    simp only [evOp] at h
    split at h
    · cases h
    · rename_i p e1
      split at h
      · cases h
      · rename_i m e2
        simp only [Option.some.injEq, Prod.mk.injEq] at h
        obtain ⟨rfl, rfl⟩ := h
        simp only [okOp] at hok
        split at hok
        · rename_i y t hb
          have ho := asBuiltin_some hb
          simp only [Bool.and_eq_true] at hok
          obtain ⟨w', s', q1, q2, q3⟩ := clear_run (P := P) hm (ty := o.type) hok.1 (okArg_ok hL hok.2 e1) e2
          refine .val q2 q3 ?_ (.tuple [] [] rfl (by simp))
          simp [execOp, ho, resolve, invoke, builtin, q1]
        · cases hok
  | indexAddrA n k x i =>
    simp only [evOp] at h
    split at h
    · rename_i p v e1 e2
      split at h
      · cases h
      · rename_i u e3
        simp only [Option.some.injEq, Prod.mk.injEq] at h
        obtain ⟨rfl, rfl⟩ := h
        simp only [okOp] at hok
        split at hok
        · rename_i t y j ho
          simp only [Bool.and_eq_true] at hok
          obtain ⟨u, h1, h2⟩ := indexAddrA_run (P := P) (w := w) hok.1.1 (okArg_ok hL hok.1.2 e1) (okArg_ok hL hok.2 e2) e3
          exact .of_value hm (by simp only [execOp, ho]; exact run_v h1) h2
        · cases hok
    · cases h
  | buildT zero i k parts =>
    simp only [evOp] at h
    split at h
    · cases h
    · rename_i ps e
      split at h
      · rename_i hi
        split at h
        · cases h
        · rename_i cs e2
          simp only [Option.some.injEq, Prod.mk.injEq] at h
          obtain ⟨rfl, rfl⟩ := h
          simp only [okOp] at hok
          split at hok
          · rename_i t ops ho
            simp only [Bool.and_eq_true] at hok
            obtain ⟨h1, h2⟩ := hok
            split at h2
            · rename_i place hp
              obtain ⟨s', q1, q2, q3⟩ := tipNew_run hm k
              obtain ⟨u, h3, h4⟩ := build_run_of (P := P) (w := w) (buildT_cr h1 hi q3) hp (okParts_ok (hL.mono q1) h2 e) e2
              refine .val q1 q2 ?_ h4
              simp only [execOp, ho]
              refine run_v ?_
              have : ops.map (fun x => (x.1, a.eval x.2)) = (ops.toList.map fun x => (x.1, a.eval x.2)).toArray := Array.ext' (by simp)
              simpa [this] using h3
            · cases h2
          · cases hok
      · cases h

end
end Go.Am
