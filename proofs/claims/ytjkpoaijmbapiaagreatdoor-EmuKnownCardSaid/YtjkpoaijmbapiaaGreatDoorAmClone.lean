/- An abstract machine for the part of Go that this program uses: what the library's own cloning of slices does, told ahead. -/
import Derived.Test.YtjkpoaijmbapiaaGreatDoorAmCode
import Derived.Laws.AppendOwn
import Derived.Lib.LaidTab
import Derived.Lib.Strings
import Derived.Lib.FieldsLaws
namespace Go.Am
set_option linter.all false
open Go Go.RowKit

theorem held_beyond {w0 : Base} {s : Sim} {M : Mem} {w : World} (h : MR w0 s M w) {g : Nat} (hg : w.heap.size ≤ g) : w0.held g = none := by
  cases hx : w0.held g with
  | none => rfl
  | some o => have := h.held_lt hx; omega

/-- A block that nobody knows of is frozen. -/
theorem MR.freezeOld {w0 : Base} {s : Sim} {M : Mem} {w : World} (h : MR w0 s M w) {g : Nat} (hn : ∀ id l, s.loc id = some l → l.block ≠ some g) (h0 : ∀ o, s.fz g o = none) (hB : w0.heap.size ≤ g) (hh : w0.held g = none)
    (f : Nat → Option Value) (hf : ∀ o v, f o = some v → w.cell? ⟨g, o, none⟩ = some v ∧ one v = true) : s.le (s.freeze g f) ∧ MR w0 (s.freeze g f) M w := by
  have hle : s.le (s.freeze g f) := ⟨(fun b o v e => by
    simp only [Sim.freeze]
    rw [if_neg]
    · exact e
    · rintro rfl
      rw [h0 o] at e
      cases e), fun id l e => ⟨l, e, l.le_refl⟩, fun _ h => h⟩
  refine ⟨hle, h.below, fun b o v e => ?_, h.dom, fun id x hx => (h.obj id x hx).keep hle rfl fun l b hl hb => ⟨rfl, fun o => ?_⟩, h.inj, h.own, h.defs, fun b o v hb e => ?_, fun b x hx => ⟨(h.held b x hx).1, (h.held b x hx).2.1, (h.held b x hx).2.2.1, fun y => ?_, (h.held b x hx).2.2.2.2⟩⟩
  · simp only [Sim.freeze] at e
    split at e
    · rename_i e1; subst e1; exact hf o v e
    · exact h.fz b o v e
  · simp only [Sim.freeze]
    rw [if_neg]
    rintro rfl
    exact hn id l hl hb
  · simp only [Sim.freeze] at e
    rw [if_neg (by omega)] at e
    exact h.old b o v hb e
  · simp only [Sim.freeze]
    rw [if_neg]
    · exact (h.held b x hx).2.2.2.1 y
    · rintro rfl; rw [hh] at hx; cases hx

/-- What is below stays; all else that is new nobody knows of. -/
theorem MR.later {w0 : Base} {s : Sim} {M : Mem} {w w' : World} (h : MR w0 s M w) (hb : Below w.heap.size w w') : MR w0 s M w' := by
  have hcell : ∀ b o, b < w.heap.size → w'.cell? ⟨b, o, none⟩ = w.cell? ⟨b, o, none⟩ := fun b o hlt => by
    simp only [World.cell?, hb.block b hlt]
  refine ⟨⟨hb.os.trans h.below.os, hb.tape.trans h.below.tape, hb.output.trans h.below.output, Nat.le_trans h.below.size hb.size, fun k hk => (hb.block k (Nat.lt_of_lt_of_le hk h.below.size)).trans (h.below.block k hk)⟩,
    fun b o v hf => ⟨by rw [hcell b o (h.fz_lt hf)]; exact (h.fz b o v hf).1, (h.fz b o v hf).2⟩, h.dom,
    fun id x hx => (h.obj id x hx).keep (.refl s) rfl fun l b hl hbl => ⟨hb.block b (h.block_lt hl hbl), fun _ => rfl⟩, h.inj, h.own, fun d hd => ⟨(h.defs d hd).1, (hb.block d (h.def_lt hd)).trans (h.defs d hd).2⟩, h.old, fun b x hx => ⟨(h.held b x hx).1, (hb.block b (h.held_lt hx)).trans (h.held b x hx).2.1, (h.held b x hx).2.2⟩⟩

/-- Cloning: a row of its own, that may be written and appended to; of nothing nothing. -/
def cloneO (k bytes : Nat) (args : List AV) (M : Mem) : Option (AV × Mem) :=
  match args with
  | [x] => match M.elems k x with
    | none => none
    | some ys => if ys = [] then some (.list .full k [], M) else
      if ys.length * bytes ≤ room ∧ ys.length ≤ 1152921504606846976 then some (.ref M.objs.length k 0 ys.length, M.push (.row k (flat (ys.map AV.untag)))) else none
  | _ => none

/-- Cloning: a row of its own, that may be written and appended to. -/
def cloneR (k bytes : Nat) (args : List AV) (M : Mem) : Option (AV × Mem) :=
  match args with
  | [x] => match M.elems k x with
    | none => none
    | some ys => if ys = [] then none else
      if ys.length * bytes ≤ room ∧ ys.length ≤ 1152921504606846976 then some (.ref M.objs.length k 0 ys.length, M.push (.row k (flat (ys.map AV.untag)))) else none
  | _ => none

theorem cloneR_sound {P : Program} {env : (Nat → Code → C → Prop) × (World → Prop)} {f : Nat} {fn : IFn} {k bytes : Nat} {e : TypeId} (ho : fn.orc = cloneR k bytes) (hk : 0 < k) (hk2 : k < 65536)
    (hc : ∀ (b off n c : Nat) (news : List Value) (w : World), news.length = n * k → n ≤ maxLen → n * bytes ≤ 140737488355328 → (∀ j u, news[j]? = some u → w.cell? ⟨b, off + j, none⟩ = some u) → (∀ u ∈ news, u.oneCell' = true) →
      Calls P f #[.slice (some ⟨b, off, none⟩) n c] w fun e' w' => ∃ v', e' = .returned v' ∧ w'.ownsRow w.heap.size e k v' n news ∧ v' ≠ .slice none 0 0 ∧ Below w.heap.size w w') : OrcSound P env f fn := by
  intro args M rv M' h
  rw [ho] at h
  unfold cloneR at h
  split at h
  · rename_i x
    split at h
    · cases h
    · rename_i ys hys
      have hmax : (1152921504606846976 : Nat) ≤ maxLen := by decide
      split at h
      · cases h
      · rename_i hne
        split at h
        · rename_i hcnd
          simp only [Option.some.injEq, Prod.mk.injEq] at h
          obtain ⟨rfl, rfl⟩ := h
          refine ⟨Keeps.push _ _, fun w0 _ s w vs hm hl hv => ?_⟩
          obtain ⟨v, rfl⟩ : ∃ v, vs = [v] := by
            match vs, hl with
            | [v], _ => exact ⟨v, rfl⟩
          rcases elems_run hm hk (hv 0 _ v rfl rfl) hys with ⟨_, h1⟩ | ⟨b, o, cap, cs, rfl, h2, h3, h4⟩
          · exact absurd h1 hne
          · refine (hc b o ys.length cap cs w h3.len (by omega) (by have := hcnd.1; unfold room at this; exact this) h4 (fun u hu => by have := h3.one u hu; cases u <;> first | rfl | (simp [one] at this))).mono ?_
            rintro e' w' ⟨v', rfl, how, hnn, hbel⟩
            have hpos : 0 < ys.length := List.length_pos_iff.2 hne
            obtain ⟨hlen, how⟩ := how
            rcases how with ⟨_, h0⟩ | ⟨g, cap', cur, rfl, hg, hgb, hcap, _, hcs, htk⟩
            · omega
            · have hld := h3.untag
              have hm' := hm.later hbel
              have hfl : (flat (ys.map AV.untag)).length = ys.length * k := by
                have := flat_len hld.size
                simpa using this
              have hpush := hm'.pushObj (.row k (flat (ys.map AV.untag))) (.row k (some g) cur.size) (fun b' hb' => by
                simp only [Loc.block, Option.some.injEq] at hb'
                subst hb'
                exact ⟨Nat.le_trans hm.below.size hg, fun i l' hl' hb' => by have := hm.block_lt hl' hb'; omega, held_beyond hm hg⟩)
                ⟨g, cur, e, setLoc_self _ _ _, hgb, by rw [hfl, hcs]; exact Nat.mul_le_mul_right _ hcap, fun i x v hx hv => by
                  have hlt := (List.getElem?_eq_some_iff.1 hx).1
                  rw [hfl] at hlt
                  have hcv : cs[i]? = some v := by
                    rw [← htk, List.getElem?_take, if_pos hlt]
                    simpa using hv
                  exact ⟨(hld.flat hx hcv).1.mono (le_setLoc_new hm' _), (hld.flat hx hcv).2⟩, fun q => by
                  show s.fz g q = none
                  cases hf : s.fz g q with
                  | none => rfl
                  | some u => have := hm.fz_lt hf; omega⟩
              refine ⟨_, _, rfl, le_setLoc_new hm' _, ?_, hpush⟩
              refine .ref _ _ _ _ g cap' k (some g) cur.size (setLoc_self _ _ _) (Nat.le_refl _) (fun _ => rfl) hcap fun _ _ => ?_
              rw [unitOf_lt hk2, hcs]; omega
        · cases h
  · cases h



/-- Cloning where nobody writes what comes of it. -/
def cloneL (k bytes : Nat) (args : List AV) (M : Mem) : Option (AV × Mem) :=
  match args with
  | [x] => match M.elems k x with
    | none => none
    | some ys => if ys ≠ [] ∧ ys.length * bytes ≤ room ∧ ys.length ≤ 1152921504606846976 then some (.list .shared k (ys.map AV.untag), M) else none
  | _ => none

theorem cloneL_sound {P : Program} {env : (Nat → Code → C → Prop) × (World → Prop)} {f : Nat} {fn : IFn} {k bytes : Nat} {e : TypeId} (ho : fn.orc = cloneL k bytes) (hk : 0 < k)
    (hc : ∀ (b off n c : Nat) (news : List Value) (w : World), news.length = n * k → n ≤ maxLen → n * bytes ≤ 140737488355328 → (∀ j u, news[j]? = some u → w.cell? ⟨b, off + j, none⟩ = some u) → (∀ u ∈ news, u.oneCell' = true) →
      Calls P f #[.slice (some ⟨b, off, none⟩) n c] w fun e' w' => ∃ v', e' = .returned v' ∧ w'.ownsRow w.heap.size e k v' n news ∧ v' ≠ .slice none 0 0 ∧ Below w.heap.size w w') : OrcSound P env f fn := by
  intro args M rv M' h
  rw [ho] at h
  unfold cloneL at h
  split at h
  · rename_i x
    split at h
    · cases h
    · rename_i ys hys
      have hmax : (1152921504606846976 : Nat) ≤ maxLen := by decide
      split at h
      · rename_i hcnd
        simp only [Option.some.injEq, Prod.mk.injEq] at h
        obtain ⟨rfl, rfl⟩ := h
        refine ⟨Keeps.refl _, fun w0 _ s w vs hm hl hv => ?_⟩
        obtain ⟨v, rfl⟩ : ∃ v, vs = [v] := by
          match vs, hl with
          | [v], _ => exact ⟨v, rfl⟩
        obtain ⟨hnil, hcnd⟩ := hcnd
        have hnil' : ys ≠ [] := hnil
        rcases elems_run hm hk (hv 0 _ v rfl rfl) hys with ⟨_, h1⟩ | ⟨b, o, cap, cs, rfl, h2, h3, h4⟩
        · exact absurd h1 hnil
        · refine (hc b o ys.length cap cs w h3.len (by omega) (by have := hcnd.1; unfold room at this; exact this) h4 (fun u hu => by have := h3.one u hu; cases u <;> first | rfl | (simp [one] at this))).mono ?_
          rintro e' w' ⟨v', rfl, how, hnn, hbel⟩
          have hpos : 0 < ys.length := List.length_pos_iff.2 hnil
          obtain ⟨hlen, how⟩ := how
          rcases how with ⟨_, h0⟩ | ⟨g, cap', cur, rfl, hg, hgb, hcap, _, hcs, htk⟩
          · omega
          · have hld := h3.untag
            have hm' := hm.later hbel
            have hget : ∀ i u, cs[i]? = some u → cur[i]? = some u := fun i u hi => by
              rw [← htk, List.getElem?_take] at hi
              split at hi
              · simpa using hi
              · cases hi
            obtain ⟨hle, hm2⟩ := hm'.freezeOld (g := g) (fun id l hl' hb' => by have := hm.block_lt hl' hb'; omega) (fun o => by
                cases hf : s.fz g o with
                | none => rfl
                | some u => have := hm.fz_lt hf; omega) (Nat.le_trans hm.below.size hg) (held_beyond hm hg) (fun o => cs[o]?) (fun o u hu => ⟨by rw [cell_of_row _ g o cur e (0, 0) hgb]; exact hget o u hu, h3.one u (List.mem_of_getElem? hu)⟩)
            refine ⟨_, _, rfl, hle, ?_, hm2⟩
            have hlen2 : (ys.map AV.untag).length = ys.length := by simp
            rw [← hlen2]
            exact VR.of_LC (hld.mono hle) hk (fun i u hu => by simp only [Sim.freeze, if_true, Nat.zero_add]; exact hu) (by rw [hlen2]; exact hcap) (fun t e => by cases e) trivial
      · cases h
  · cases h

end Go.Am
namespace Go.Am
set_option linter.all false
open Go Go.RowKit

/-- The fields of a string of small bytes. -/
def fieldsO (args : List AV) (M : Mem) : Option (AV × Mem) :=
  match args with
  | [.str b] => if b.size < 4294967281 ∧ b.data.toList.all (fun c => c.toNat < 128) then some (.list .shared 1 ((Lib.fields b.data.toList).map fun l => .str ⟨l.toArray⟩), M) else none
  | _ => none

theorem fieldsO_sound {P : Program} {env : (Nat → Code → C → Prop) × (World → Prop)} {f : Nat} {fn : IFn} {t : TypeId} (ho : fn.orc = fieldsO)
    (hc : ∀ (b : ByteArray) (w : World), env.2 w → b.size < 4294967281 → (∀ (j : Nat) c, b.data.toList[j]? = some c → c.toNat < 128) →
      Calls P f #[.string b] w fun e w' => e = .returned (.slice (some ⟨w.heap.size, 0, none⟩) (Lib.fields b.data.toList).length (Lib.fields b.data.toList).length) ∧ w' = w.alloc (.cells ((Lib.fields b.data.toList).map fun l => Value.string ⟨l.toArray⟩).toArray t)) : OrcSound P env f fn := by
  intro args M rv M' h
  rw [ho] at h
  unfold fieldsO at h
  split at h
  · rename_i b
    split at h
    · rename_i hcnd
      simp only [Option.some.injEq, Prod.mk.injEq] at h
      obtain ⟨rfl, rfl⟩ := h
      refine ⟨Keeps.refl _, fun w0 he s w vs hm hl hv => ?_⟩
      obtain ⟨v, rfl⟩ : ∃ v, vs = [v] := by
        match vs, hl with
        | [v], _ => exact ⟨v, rfl⟩
      have hv0 := (hv 0 _ v rfl rfl).str_inv
      subst hv0
      have htab : env.2 w := by
        have := w0.htabs w hm.below
        rw [← he]; exact this
      refine (hc b w htab hcnd.1 fun j c hj => by
        have := List.all_eq_true.1 hcnd.2 c (List.mem_of_getElem? hj)
        simpa using this).mono ?_
      rintro e' w' ⟨rfl, rfl⟩
      generalize Lib.fields b.data.toList = ls
      have hmf := hm.allocFz (ls.map fun l => Value.string ⟨l.toArray⟩).toArray t (fun o => (ls.map fun l => Value.string ⟨l.toArray⟩)[o]?) fun o u hu => by
        refine ⟨by simpa using hu, ?_⟩
        simp only [List.getElem?_map, Option.map_eq_some_iff] at hu
        obtain ⟨l, _, rfl⟩ := hu
        rfl
      refine ⟨_, _, rfl, le_freeze_new hm _, ?_, hmf⟩
      have hlen : (ls.map fun l => AV.str ⟨l.toArray⟩).length = ls.length := by simp
      rw [← hlen]
      refine .list .shared 1 _ w.heap.size 0 _ (fun i _ => ((ls.map fun l => Value.string ⟨l.toArray⟩)[i]?).getD undef) (Nat.le_refl _) (fun i x hx => ?_) (fun i x j c hx hc => ?_) (fun i x j c hx hc => ?_) (fun t e => by cases e) trivial
      · simp only [List.getElem?_map, Option.map_eq_some_iff] at hx
        obtain ⟨y, _, rfl⟩ := hx; rfl
      all_goals
        simp only [List.getElem?_map, Option.map_eq_some_iff] at hx
        obtain ⟨y, hy, rfl⟩ := hx
        cases j with
        | succ j => simp [AV.cells] at hc
        | zero =>
          simp only [AV.cells, List.getElem?_cons_zero, Option.some.injEq] at hc
          subst hc
          first
            | (simp only [Sim.freeze, if_true, Nat.zero_add, Nat.mul_one, Nat.add_zero, List.getElem?_map, hy, Option.map_some, Option.getD_some]; done)
            | (simp only [Nat.add_zero, List.getElem?_map, hy, Option.map_some, Option.getD_some]; exact .str _)
    · cases h
  · cases h

end Go.Am
