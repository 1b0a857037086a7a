/- An abstract machine for the part of Go that this program uses: the runs of look-ups and of stores into maps; the rest. -/
import Derived.Test.YtdddcofggemnkaaAmOps10
namespace Go.Am
set_option linter.all false
open Go Go.RowKit

section
variable {P : Program} {w0 : Base} {w : World} {s : Sim} {M : Mem}

theorem run_getObj_map {b : Nat} {mes : Array MapEntry} {clock : Nat} (h : w.heap[b]? = some (.map mes clock)) : (getObj b).run P w = .ok (.map mes clock) w := by
  simp [getObj, Sem.run, h]

def okMapT (P : Program) (t : TypeId) (q : EQ) : Bool :=
  match P.underlying t with
  | some (.map key _) => okEQ P key q
  | _ => false

def okMapZ (P : Program) (t : TypeId) (zero : AV) : Bool :=
  match P.underlying t with
  | some (.map _ e) => zeroVal P e zero
  | _ => false

theorem fits_key {t : TypeId} {q : EQ} {x : AV} {vx : Value} (empty : Bool) (hq : okEQ P t q = true) (hx : VR s x vx) (hf : q.fits x = true) : (Instr.checkKey empty 10000 t vx).run P w = .ok () w := by
  simp only [EQ.fits, Bool.and_eq_true, decide_eq_true_eq] at hf
  exact eqv_key empty hq hx hf.2 hf.1

theorem tuple2 {x : AV} {v : Value} {b : Bool} (h : VR s x v) : VR s (.tuple [x, .bool b]) (.tuple #[v, .bool b]) :=
  .tuple [x, .bool b] [v, .bool b] rfl fun i y u hy hu => by
    cases i with
    | zero => simp only [List.getElem?_cons_zero, Option.some.injEq] at hy hu; subst hy; subst hu; exact h
    | succ i =>
      cases i with
      | zero => simp only [List.getElem?_cons_succ, List.getElem?_cons_zero, Option.some.injEq] at hy hu; subst hy; subst hu; exact .bool b
      | succ i => simp at hy

theorem lookup_run (hm : MR w0 s M w) {t : TypeId} {q : EQ} {zero : AV} {ok : Bool} {id : Nat} {i : AV} {xv iv : Value} {es : List (AV × AV)} {n : Option AV} (ht : okMapT P t q = true) (hz : okMapZ P t zero = true) (hx : VR s (.map id) xv) (hi : VR s i iv)
    (hf : q.fits i = true) (hid : M.objs[id]? = some (.map es)) (hk : findKey q i es = some n) :
    ∃ u, (Instr.lookup t xv iv ok).run P w = .ok u w ∧ VR s (match n with | some v => if ok then .tuple [v, .bool true] else v | none => if ok then .tuple [zero, .bool false] else zero) u := by
  unfold okMapT at ht
  split at ht
  · rename_i key e hu
    unfold okMapZ at hz
    rw [hu] at hz
    obtain ⟨z, hz1, hz2⟩ := run_zeroVal (w := w) hz
    obtain ⟨b, mes, clock, h1, h2, h3, h4⟩ := hm.obj id _ hid
    cases hx with
    | map _ b' hl =>
      rw [h1] at hl
      cases hl
      obtain ⟨p, hp1, hp2⟩ := findKey_at hk
      have her : ER s es mes.toList := ⟨by simpa using h3, fun i e m he hm => h4 i e m he (by simpa using hm)⟩
      have hfind := findKey_run (P := P) (w := w) ht hi her hp1
      have hck := fits_key (P := P) (w := w) mes.isEmpty ht hi hf
      have hget := run_getObj_map (P := P) h2
      cases p with
      | none =>
        simp only [Option.bind_none] at hp2 hfind
        subst hp2
        refine ⟨if ok then .tuple #[z, .bool false] else z, ?_, ?_⟩
        · simp only [Instr.lookup, Sem.run_bind, run_underlying hu, Result.andThen_ok, hget, Sem.run_pure, hck, hfind, hz1]
        · cases ok
          · exact okConst_ok hz2
          · exact tuple2 (okConst_ok hz2)
      | some p =>
        obtain ⟨e1, g1, g2⟩ := keyAt_eqv hp1
        have hlt : p < mes.size := by rw [h3]; exact (List.getElem?_eq_some_iff.1 g1).1
        simp only [Option.bind_some, g1, Option.map_some] at hp2
        subst hp2
        have hmp : mes.toList[p]? = some mes[p] := by simp [hlt]
        simp only [Option.bind_some, hmp, Option.map_some] at hfind
        refine ⟨if ok then .tuple #[mes[p].val, .bool true] else mes[p].val, ?_, ?_⟩
        · simp only [Instr.lookup, Sem.run_bind, run_underlying hu, Result.andThen_ok, hget, Sem.run_pure, hck, hfind]
        · have := (h4 p e1 mes[p] g1 (Array.getElem?_eq_getElem hlt)).2
          cases ok
          · exact this
          · exact tuple2 this
  · cases ht

theorem lookup_nil {t : TypeId} {q : EQ} {zero : AV} {ok : Bool} {i : AV} {iv : Value} (ht : okMapT P t q = true) (hz : okMapZ P t zero = true) (hi : VR s i iv) (hf : q.fits i = true) :
    ∃ u, (Instr.lookup t (.map none) iv ok).run P w = .ok u w ∧ VR s (if ok then .tuple [zero, .bool false] else zero) u := by
  unfold okMapT at ht
  split at ht
  · rename_i key e hu
    unfold okMapZ at hz
    rw [hu] at hz
    obtain ⟨z, hz1, hz2⟩ := run_zeroVal (w := w) hz
    have hck := fits_key (P := P) (w := w) (#[] : Array MapEntry).isEmpty ht hi hf
    have hfind := findKey_run (P := P) (w := w) (ms := []) (es := []) (n := none) ht hi ⟨rfl, by simp⟩ rfl
    refine ⟨if ok then .tuple #[z, .bool false] else z, ?_, ?_⟩
    · simp only [Instr.lookup, Sem.run_bind, run_underlying hu, Result.andThen_ok, Sem.run_pure, hck]
      simp only [Option.bind_none] at hfind
      simp only [hfind, Result.andThen_ok, Sem.run_bind, hz1, Sem.run_pure]
    · cases ok
      · exact okConst_ok hz2
      · exact tuple2 (okConst_ok hz2)
  · cases ht

theorem run_setObj_map {b : Nat} {mes mes' : Array MapEntry} {clock clock' : Nat} (h : w.heap[b]? = some (.map mes clock)) : (setObj b (.map mes' clock')).run P w = .ok () { w with heap := w.heap.setIfInBounds b (.map mes' clock') } := by
  simp [setObj, Sem.run, h]

theorem setMap (hm : MR w0 s M w) {id b : Nat} {es es' : List (AV × AV)} {mes mes' : Array MapEntry} {clock clock' : Nat} (hid : M.objs[id]? = some (.map es)) (hl : s.loc id = some (.map b)) (hb : w.heap[b]? = some (.map mes clock))
    (her : ER s es' mes'.toList) : ∃ s', s.le s' ∧ MR w0 s' (M.put id (.map es')) { w with heap := w.heap.setIfInBounds b (.map mes' clock') } := by
  have hlt : b < w.heap.size := (Array.getElem?_eq_some_iff.1 hb).1
  have hB : w0.heap.size ≤ b := hm.own id _ b hl rfl
  have hself : ∀ k, ({ w with heap := w.heap.setIfInBounds b (.map mes' clock') } : World).heap[k]? = if k = b then some (.map mes' clock') else w.heap[k]? := fun k => by
    by_cases e : k = b
    · subst e; simp [hlt]
    · rw [if_neg e]; exact Array.getElem?_setIfInBounds_ne (by omega)
  have hmain := hm.setObj (List.getElem?_eq_some_iff.1 hid).1 (.map es') (.map b) hl rfl { w with heap := w.heap.setIfInBounds b (.map mes' clock') } s.fz (fun _ _ _ h => h) (fun _ _ _ => rfl)
    (fun b' hb' _ => by rw [hself b', if_neg (fun e => hb' (by rw [e]; rfl))])
    ⟨hm.below.os, hm.below.tape, hm.below.output, by simpa using hm.below.size, fun k hk => by rw [hself k, if_neg (by omega)]; exact hm.below.block k hk⟩
    (fun b' hb' => ⟨by cases hb'; exact hB, .inl hb'⟩)
    (fun b' o v hb' hf => by
      cases hb'
      have := (hm.fz b o v hf).1
      simp [World.cell?, hb] at this)
    ⟨b, mes', clock', by simp [Sim.setLoc], by rw [hself b, if_pos rfl], by simpa using her.1, fun i e m he hm' => by
      have mono : s.le { fz := s.fz, loc := (s.setLoc id (.map b)).loc, defs := s.defs } := ⟨fun _ _ _ h => h, fun i l hl' => ⟨l, by
        simp only [Sim.setLoc]
        split
        · rename_i e; subst e; rw [hl] at hl'; exact hl'
        · exact hl', l.le_refl⟩, fun _ h => h⟩
      obtain ⟨h1, h2⟩ := her.2 i e m he (by simpa using hm')
      exact ⟨h1.mono mono, h2.mono mono⟩⟩ none
  exact ⟨_, hmain.1, MR.put_of hm hmain.2⟩

theorem mapUpdate_run (hm : MR w0 s M w) {t : TypeId} {q : EQ} {id : Nat} {i c : AV} {xv iv cv : Value} {es es' : List (AV × AV)} (ht : okMapT P t q = true) (hx : VR s (.map id) xv) (hi : VR s i iv) (hc : VR s c cv)
    (hf : q.fits i = true) (hid : M.objs[id]? = some (.map es)) (hk : putKey q i c es = some es') :
    ∃ s' w', s.le s' ∧ MR w0 s' (M.put id (.map es')) w' ∧ (Instr.mapUpdate t xv iv cv).run P w = .ok () w' := by
  unfold okMapT at ht
  split at ht
  · rename_i key e hu
    obtain ⟨b, mes, clock, h1, h2, h3, h4⟩ := hm.obj id _ hid
    cases hx with
    | map _ b' hl =>
      have hl' := hl
      rw [h1] at hl
      cases hl
      obtain ⟨p, hp1, hp2⟩ := putKey_at hk
      have her : ER s es mes.toList := ⟨by simpa using h3, fun i e m he hm => h4 i e m he (by simpa using hm)⟩
      have hfind := findKey_run (P := P) (w := w) ht hi her hp1
      have hck := fits_key (P := P) (w := w) false ht hi hf
      have hget := run_getObj_map (P := P) h2
      cases p with
      | none =>
        simp only [Option.bind_none] at hp2 hfind
        subst hp2
        obtain ⟨s', g1, g2⟩ := setMap hm hid hl' h2 (es' := es ++ [(i, c)]) (mes' := mes.push { key := iv, val := cv, born := clock }) (clock' := clock + 1) ⟨by simp [h3], fun k e m he hm' => by
          simp only [Array.toList_push] at hm'
          rw [List.getElem?_append] at he hm'
          simp only [Array.length_toList, h3] at hm'
          split at he
          · rename_i hlt
            rw [if_pos hlt] at hm'
            exact her.2 k e m he hm'
          · rename_i hge
            rw [if_neg hge] at hm'
            have hk0 : k - es.length = 0 := by
              have := (List.getElem?_eq_some_iff.1 he).1
              simp at this; omega
            rw [hk0] at he hm'
            simp only [List.getElem?_cons_zero, Option.some.injEq] at he hm'
            subst he; subst hm'
            exact ⟨hi, hc⟩⟩
        refine ⟨s', _, g1, g2, ?_⟩
        simp only [Instr.mapUpdate, Sem.run_bind, run_underlying hu, Result.andThen_ok, hget, hck, hfind]
        exact run_setObj_map h2
      | some p =>
        obtain ⟨e1, k1, k2⟩ := keyAt_eqv hp1
        have hlt : p < mes.size := by rw [h3]; exact (List.getElem?_eq_some_iff.1 k1).1
        simp only at hp2
        subst hp2
        have hmp : mes.toList[p]? = some mes[p] := by simp [hlt]
        simp only [Option.bind_some, hmp, Option.map_some] at hfind
        obtain ⟨q1, q2⟩ := her.2 p e1 mes[p] k1 hmp
        obtain ⟨heq, hsame⟩ := eqv_same hi q1 k2
        have hsame' : Instr.sameBits 10000 mes[p].key iv = true := by rw [← heq] at hsame ⊢; exact hsame
        have hstay : (Instr.keyThatStays ((((mes[p]?).map (·.key)).getD iv)) iv).run P w = .ok iv w := by
          rw [Array.getElem?_eq_getElem hlt]
          simp only [Option.map_some, Option.getD_some, Instr.keyThatStays]
          rw [if_pos hsame']
          rfl
        obtain ⟨s', g1, g2⟩ := setMap hm hid hl' h2 (es' := es.set p (i, c)) (mes' := mes.modify p fun e => { e with key := iv, val := cv }) (clock' := clock) ⟨by simp [h3], fun k e m he hm' => by
          have hm2 : (mes.modify p fun e => { e with key := iv, val := cv })[k]? = some m := by rw [← Array.getElem?_toList]; exact hm'
          rw [Array.getElem?_modify] at hm2
          rcases set_get he with ⟨rfl, rfl⟩ | ⟨hne, he⟩
          · rw [if_pos rfl, Array.getElem?_eq_getElem hlt] at hm2
            simp only [Option.map_some, Option.some.injEq] at hm2
            subst hm2
            exact ⟨hi, hc⟩
          · rw [if_neg (by omega)] at hm2
            exact h4 k e m he hm2⟩
        refine ⟨s', _, g1, g2, ?_⟩
        simp only [Instr.mapUpdate, Sem.run_bind, run_underlying hu, Result.andThen_ok, hget, hck, hfind, hstay]
        exact run_setObj_map h2
  · cases ht

end
end Go.Am
