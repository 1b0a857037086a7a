/- An abstract machine for the part of Go that this program uses: what the library's own cloning of slices and sorting of pairs does, told ahead. -/
import Derived.Test.YtdddcofggemnkaaAmSort
import Derived.Laws.AppendOwn
namespace Go.Am
set_option linter.all false
open Go Go.RowKit Go.Sort

/-- What is below stays; all else that is new nobody knows of. -/
theorem MR.later {w0 : Base} {s : Sim} {M : Mem} {w w' : World} (h : MR w0 s M w) (hb : Below w.heap.size w w') : MR w0 s M w' := by
  have hcell : ∀ b o, b < w.heap.size → w'.cell? ⟨b, o, none⟩ = w.cell? ⟨b, o, none⟩ := fun b o hlt => by
    simp only [World.cell?, hb.block b hlt]
  refine ⟨⟨hb.os.trans h.below.os, hb.tape.trans h.below.tape, hb.output.trans h.below.output, Nat.le_trans h.below.size hb.size, fun k hk => (hb.block k (Nat.lt_of_lt_of_le hk h.below.size)).trans (h.below.block k hk)⟩,
    fun b o v hf => ⟨by rw [hcell b o (h.fz_lt hf)]; exact (h.fz b o v hf).1, (h.fz b o v hf).2⟩, h.dom,
    fun id x hx => (h.obj id x hx).keep (.refl s) rfl fun l b hl hbl => ⟨hb.block b (h.block_lt hl hbl), fun _ => rfl⟩, h.inj, h.own, fun d hd => ⟨(h.defs d hd).1, (hb.block d (h.def_lt hd)).trans (h.defs d hd).2⟩, h.old⟩

/-- Cloning: a row of its own, that may be written and appended to; of nothing nothing. -/
def cloneO (k bytes : Nat) (args : List AV) (M : Mem) : Option (AV × Mem) :=
  match args with
  | [x] => match M.elems k x with
    | none => none
    | some ys => if ys = [] then some (.list .full k [], M) else
      if ys.length * bytes ≤ room ∧ ys.length ≤ 1152921504606846976 then some (.ref M.objs.length k 0 ys.length, M.push (.row k (flat (ys.map AV.untag)))) else none
  | _ => none

theorem cloneO_sound {P : Program} {okc : Nat → Code → C → Prop} {f : Nat} {fn : IFn} {k bytes : Nat} {e : TypeId} (ho : fn.orc = cloneO k bytes) (hk : 0 < k) (hk2 : k < 65536)
    (hc : ∀ (b off n c : Nat) (news : List Value) (w : World), news.length = n * k → n ≤ maxLen → n * bytes ≤ 140737488355328 → (∀ j u, news[j]? = some u → w.cell? ⟨b, off + j, none⟩ = some u) → (∀ u ∈ news, u.oneCell' = true) →
      Calls P f #[.slice (some ⟨b, off, none⟩) n c] w fun e' w' => ∃ v', e' = .returned v' ∧ w'.ownsRow w.heap.size e k v' n news ∧ v' ≠ .slice none 0 0 ∧ Below w.heap.size w w')
    (hz : ∀ (a : Addr) (c : Nat) (w : World), Calls P f #[.slice (some a) 0 c] w fun e w' => ∃ g, e = .returned (.slice (some ⟨g, 0, none⟩) 0 0) ∧ Below w.heap.size w w')
    (hn : ∀ (n c : Nat) (w : World), Calls P f #[.slice none n c] w fun e w' => e = .returned (.slice none 0 0) ∧ w' = w) : OrcSound P okc f fn := by
  intro args M rv M' h
  rw [ho] at h
  unfold cloneO at h
  split at h
  · rename_i x
    split at h
    · cases h
    · rename_i ys hys
      have hmax : (1152921504606846976 : Nat) ≤ maxLen := by decide
      split at h
      · rename_i hnil
        simp only [Option.some.injEq, Prod.mk.injEq] at h
        obtain ⟨rfl, rfl⟩ := h
        subst hnil
        refine ⟨Keeps.refl _, fun w0 _ s w vs hm hl hv => ?_⟩
        obtain ⟨v, rfl⟩ : ∃ v, vs = [v] := by
          match vs, hl with
          | [v], _ => exact ⟨v, rfl⟩
        have key : ∀ (a : Addr) (cap : Nat), v = .slice (some a) 0 cap → Calls P f #[v] w fun e w' => ∃ v s', e = .returned v ∧ s.le s' ∧ VR s' (.list .full k []) v ∧ MR w0 s' M w' := by
          rintro a cap rfl
          refine (hz a cap w).mono ?_
          rintro e' w' ⟨g, rfl, hbel⟩
          exact ⟨_, s, rfl, .refl s, .list .full k [] g 0 0 (fun _ _ => undef) (Nat.zero_le _) (by simp) (by simp) (by simp) (by simp) rfl, hm.later hbel⟩
        rcases elems_run hm hk (hv 0 _ v rfl rfl) hys with ⟨hxv, _⟩ | ⟨b, o, cap, cs, h1, h2, h3, h4⟩
        · rcases hxv with rfl | ⟨a, rfl⟩
          · refine (hn 0 0 w).mono ?_
            rintro e' w' ⟨rfl, rfl⟩
            exact ⟨_, s, rfl, .refl s, .nil .full k rfl, hm⟩
          · exact key a 0 rfl
        · exact key ⟨b, o, none⟩ cap (by simpa using h1)
      · rename_i hne
        split at h
        · rename_i hcnd
          simp only [Option.some.injEq, Prod.mk.injEq] at h
          obtain ⟨rfl, rfl⟩ := h
          refine ⟨Keeps.push _ _, fun w0 _ s w vs hm hl hv => ?_⟩
          obtain ⟨v, rfl⟩ : ∃ v, vs = [v] := by
            match vs, hl with
            | [v], _ => exact ⟨v, rfl⟩
          rcases elems_run hm hk (hv 0 _ v rfl rfl) hys with ⟨_, h1⟩ | ⟨b, o, cap, cs, rfl, h2, h3, h4⟩
          · exact absurd h1 hne
          · refine (hc b o ys.length cap cs w h3.len (by omega) (by have := hcnd.1; unfold room at this; exact this) h4 (fun u hu => by have := h3.one u hu; cases u <;> first | rfl | (simp [one] at this))).mono ?_
            rintro e' w' ⟨v', rfl, how, hnn, hbel⟩
            have hpos : 0 < ys.length := List.length_pos_iff.2 hne
            obtain ⟨hlen, how⟩ := how
            rcases how with ⟨_, h0⟩ | ⟨g, cap', cur, rfl, hg, hgb, hcap, _, hcs, htk⟩
            · omega
            · have hld := h3.untag
              have hm' := hm.later hbel
              have hfl : (flat (ys.map AV.untag)).length = ys.length * k := by
                have := flat_len hld.size
                simpa using this
              have hpush := hm'.pushObj (.row k (flat (ys.map AV.untag))) (.row k (some g) cur.size) (fun b' hb' => by
                simp only [Loc.block, Option.some.injEq] at hb'
                subst hb'
                exact ⟨Nat.le_trans hm.below.size hg, fun i l' hl' hb' => by have := hm.block_lt hl' hb'; omega⟩)
                ⟨g, cur, e, setLoc_self _ _ _, hgb, by rw [hfl, hcs]; exact Nat.mul_le_mul_right _ hcap, fun i x v hx hv => by
                  have hlt := (List.getElem?_eq_some_iff.1 hx).1
                  rw [hfl] at hlt
                  have hcv : cs[i]? = some v := by
                    rw [← htk, List.getElem?_take, if_pos hlt]
                    simpa using hv
                  exact ⟨(hld.flat hx hcv).1.mono (le_setLoc_new hm' _), (hld.flat hx hcv).2⟩, fun q => by
                  show s.fz g q = none
                  cases hf : s.fz g q with
                  | none => rfl
                  | some u => have := hm.fz_lt hf; omega⟩
              refine ⟨_, _, rfl, le_setLoc_new hm' _, ?_, hpush⟩
              refine .ref _ _ _ _ g cap' k (some g) cur.size (setLoc_self _ _ _) (Nat.le_refl _) (fun _ => rfl) hcap fun _ _ => ?_
              rw [unitOf_lt hk2, hcs]; omega
        · cases h
  · cases h


/-- The sort of pairs, as numbers one behind the other. -/
def sortPO (g : List Int → List Int) (c : Nat) (args : List AV) (M : Mem) : Option (AV × Mem) :=
  match args with
  | [.ref id ver off len, .func f [] []] => match M.objs[id]? with
    | some (.row ver' cs) => if ver = ver' ∧ off = 0 ∧ len * 2 ≤ cs.length ∧ 0 < len ∧ len < 1152921504606846976 ∧ f = c then
        match intsOf (cs.take (len * 2)) with
        | some zs => some (.tuple [], M.put id (.row ver ((g zs).map (AV.int .i64) ++ cs.drop (len * 2))))
        | none => none
      else none
    | _ => none
  | [.list _ _ [], .func f [] []] => if f = c then some (.tuple [], M) else none
  | _ => none

theorem func0_of {s : Sim} {f : Nat} {v : Value} (h : VR s (.func f [] []) v) : v = .func (.func f) #[] #[] := by
  cases h with
  | func _ _ _ fs cs h1 h2 => cases fs <;> cases cs <;> simp_all

theorem sortPO_sound {P : Program} {okc : Nat → Code → C → Prop} {f c : Nat} {fn : IFn} {g : List Int → List Int} (ho : fn.orc = sortPO g c) (hg : ∀ (n : Nat) (zs : List Int), zs.length = n * 2 → (g zs).length = zs.length)
    (hc : ∀ (blk cap n : Nat) (zs : List Int) (w : World), zs.length = n * 2 → Holds (Value.int .i64) w blk 0 zs.toArray → blk < w.heap.size → n < 4611686018427387904 →
      Calls P f #[.slice (some ⟨blk, 0, none⟩) n cap, .func (.func c) #[] #[]] w fun e w' => e = .returned (.tuple #[]) ∧ ∃ q os, w' = grow (putRow (Value.int .i64) (Sort.ahead w q) blk 0 (g zs).toArray) os)
    (hn : ∀ (p : Option Addr) (cap : Nat) (w : World), Calls P f #[.slice p 0 cap, .func (.func c) #[] #[]] w fun e w' => e = .returned (.tuple #[]) ∧ w' = w) : OrcSound P okc f fn := by
  intro args M rv M' h
  rw [ho] at h
  unfold sortPO at h
  split at h
  · rename_i id ver off len ff
    split at h
    · rename_i ver' cs hid
      split at h
      · rename_i hcond
        obtain ⟨rfl, rfl, hle, hpos, hbig, rfl⟩ := hcond
        split at h
        · rename_i zs hz
          simp only [Option.some.injEq, Prod.mk.injEq] at h
          obtain ⟨rfl, rfl⟩ := h
          refine ⟨Keeps.put _ _ _, fun w0 _ s w vs hm hl hv => ?_⟩
          have hzs := intsOf_map hz
          have hzl : zs.length = len * 2 := by
            have := congrArg List.length hzs
            simp only [List.length_take, List.length_map] at this
            omega
          obtain ⟨v, u, rfl⟩ : ∃ v u, vs = [v, u] := by
            match vs, hl with
            | [v, u], _ => exact ⟨v, u, rfl⟩
          have hx := hv 0 _ v rfl rfl
          have hu := func0_of (hv 1 _ u rfl rfl)
          subst hu
          obtain ⟨b, c, e, h1, h2, h3, h4, h5⟩ := hm.obj id _ hid
          cases hx with
          | ref _ _ _ _ b2 cap ver2 b' nz hl2 hv2 hb hcap hzz =>
            rw [h1] at hl2
            cases hl2
            have hbb := hb rfl
            simp only [Option.some.injEq] at hbb
            subst hbb
            have htake : c.toList.take zs.length = zs.map (Value.int .i64) := by
              apply List.ext_getElem?
              intro i
              by_cases hi : i < zs.length
              · rw [List.getElem?_take, if_pos hi]
                have hic : i < c.size := by omega
                have hcs : cs[i]? = some (.int .i64 zs[i]) := by
                  have := congrArg (fun l => l[i]?) hzs
                  simp only [List.getElem?_take, List.getElem?_map] at this
                  rw [if_pos (by omega), List.getElem?_eq_getElem hi] at this
                  exact this
                have := (h4 i _ c[i] hcs (Array.getElem?_eq_getElem hic)).1.int_of
                rw [Array.getElem?_toList, Array.getElem?_eq_getElem hic, this]
                simp [hi]
              · rw [List.getElem?_eq_none (by simp; omega), List.getElem?_eq_none (by simp; omega)]
            have hH := holds_of_blockI h2 htake
            have hblt : b < w.heap.size := (Array.getElem?_eq_some_iff.1 h2).1
            refine (hc b cap len zs w hzl hH hblt (by omega)).mono ?_
            rintro e' w' ⟨rfl, q, os, rfl⟩
            obtain ⟨s', k1, k2, k3⟩ := hm.putInts hid h1 h2 h3 h4 h5 (zs := g zs) (by rw [hg len zs hzl]; omega) q os
            refine ⟨_, s', rfl, k1, .tuple [] [] rfl (by simp), ?_⟩
            rw [hg len zs hzl, hzl] at k3
            exact k3
        · cases h
      · cases h
    · cases h
  · rename_i gt k ff
    split at h
    · rename_i hff
      subst hff
      simp only [Option.some.injEq, Prod.mk.injEq] at h
      obtain ⟨rfl, rfl⟩ := h
      refine ⟨Keeps.refl _, fun w0 _ s w vs hm hl hv => ?_⟩
      obtain ⟨v, u, rfl⟩ : ∃ v u, vs = [v, u] := by
        match vs, hl with
        | [v, u], _ => exact ⟨v, u, rfl⟩
      have hu := func0_of (hv 1 _ u rfl rfl)
      subst hu
      obtain ⟨a, cap, rfl⟩ := list0_slice (hv 0 _ v rfl rfl)
      refine (hn a cap w).mono ?_
      rintro e' w' ⟨rfl, rfl⟩
      exact ⟨_, s, rfl, .refl s, .tuple [] [] rfl (by simp), hm⟩
    · cases h
  · cases h

def cloneI := cloneO 1 8
def cloneP := cloneO 2 16
end Go.Am
namespace Go.Am
set_option linter.all false
open Go Go.RowKit

/-- Room for some: nothing, or a row of which no cell is known. -/
def growO (k bytes : Nat) (args : List AV) (M : Mem) : Option (AV × Mem) :=
  match args with
  | [.list .full k' [], .int .i64 n] => if n = 0 then some (.list .full k' [], M) else
    if 0 < n ∧ n.toNat * bytes ≤ room ∧ n.toNat ≤ 4611686018427387904 then some (.ref M.objs.length k 0 0, M.push (.row k [])) else none
  | _ => none

theorem full_nil {s : Sim} {k : Nat} {v : Value} (h : VR s (.list .full k []) v) : ∃ base, v = .slice base 0 0 := by
  match h with
  | .nil _ _ _ => exact ⟨none, rfl⟩
  | .list _ _ _ b o cap _ _ _ _ _ _ ht =>
    have h0 : cap = 0 := ht
    subst h0
    exact ⟨_, rfl⟩

theorem growO_sound {P : Program} {okc : Nat → Code → C → Prop} {f : Nat} {fn : IFn} {k bytes : Nat} {e : TypeId} (ho : fn.orc = growO k bytes) (hk2 : k < 65536)
    (hg : ∀ (base : Option Addr) (n : Nat) (w : World), 0 < n → n * bytes ≤ 140737488355328 → n ≤ 4611686018427387904 → Calls P f #[.slice base 0 0, .int .i64 n] w fun e' w' =>
      ∃ G c, e' = .returned (.slice (some ⟨w.heap.size, 0, none⟩) 0 G) ∧ c.size = G * k ∧ w'.heap[w.heap.size]? = some (.cells c e (0, 0)) ∧ Below w.heap.size w w')
    (h0 : ∀ (base : Option Addr) (w : World), Calls P f #[.slice base 0 0, .int .i64 0] w fun e w' => e = .returned (.slice base 0 0) ∧ w' = w) : OrcSound P okc f fn := by
  intro args M rv M' h
  rw [ho] at h
  unfold growO at h
  split at h
  · rename_i k' n
    have two : ∀ {s : Sim} {vs : List Value}, [AV.list .full k' [], AV.int .i64 n].length = vs.length → (∀ (i : Nat) (x : AV) (v : Value), [AV.list .full k' [], AV.int .i64 n][i]? = some x → vs[i]? = some v → VR s x v) →
        ∃ base, vs = [.slice base 0 0, .int .i64 n] ∧ VR s (.list .full k' []) (.slice base 0 0) := by
      intro s vs hl hv
      match vs, hl with
      | [v1, v2], _ =>
        have h1 := hv 0 _ v1 rfl rfl
        have h2 := hv 1 _ v2 rfl rfl
        cases h2
        obtain ⟨base, rfl⟩ := full_nil h1
        exact ⟨base, rfl, h1⟩
    split at h
    · rename_i hn
      subst hn
      simp only [Option.some.injEq, Prod.mk.injEq] at h
      obtain ⟨rfl, rfl⟩ := h
      refine ⟨Keeps.refl _, fun w0 _ s w vs hm hl hv => ?_⟩
      obtain ⟨base, rfl, hb⟩ := two hl hv
      refine (h0 base w).mono ?_
      rintro e' w' ⟨rfl, rfl⟩
      exact ⟨_, s, rfl, .refl s, hb, hm⟩
    · split at h
      · rename_i hcnd
        obtain ⟨c1, c2, c3⟩ := hcnd
        simp only [Option.some.injEq, Prod.mk.injEq] at h
        obtain ⟨rfl, rfl⟩ := h
        refine ⟨Keeps.push _ _, fun w0 _ s w vs hm hl hv => ?_⟩
        obtain ⟨base, rfl, _⟩ := two hl hv
        have hnn : ((n.toNat : Nat) : Int) = n := Int.toNat_of_nonneg (by omega)
        have := hg base n.toNat w (by omega) (by unfold room at c2; exact c2) c3
        rw [hnn] at this
        refine this.mono ?_
        rintro e' w' ⟨G, c, rfl, hcs, hgb, hbel⟩
        have hm' := hm.later hbel
        have hpush := hm'.pushObj (.row k []) (.row k (some w.heap.size) c.size) (fun b' hb' => by
          simp only [Loc.block, Option.some.injEq] at hb'
          subst hb'
          exact ⟨hm.below.size, fun i l' hl' hb' => by have := hm.block_lt hl' hb'; omega⟩)
          ⟨w.heap.size, c, e, setLoc_self _ _ _, hgb, Nat.zero_le _, fun i x v hx hv => by simp at hx, fun q => by
            show s.fz w.heap.size q = none
            cases hf : s.fz w.heap.size q with
            | none => rfl
            | some u => have := hm.fz_lt hf; omega⟩
        refine ⟨_, _, rfl, le_setLoc_new hm' _, ?_, hpush⟩
        refine .ref _ _ _ _ w.heap.size G k (some w.heap.size) c.size (setLoc_self _ _ _) (Nat.le_refl _) (fun _ => rfl) (Nat.zero_le _) fun _ _ => ?_
        rw [unitOf_lt hk2, hcs]; omega
      · cases h
  · cases h
end Go.Am
