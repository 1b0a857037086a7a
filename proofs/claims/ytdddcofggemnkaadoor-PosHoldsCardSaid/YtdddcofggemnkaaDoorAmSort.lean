/- An abstract machine for the part of Go that this program uses: what the library's own sorting and compacting of whole numbers does, told ahead. -/
import Derived.Test.YtdddcofggemnkaaDoorAmIn
import Derived.Sort.OwnSortedInts
import Derived.Shelf.Slices.CompactI
namespace Go.Am
set_option linter.all false
open Go Go.RowKit Go.Sort

def intsOf : List AV → Option (List Int)
  | [] => some []
  | .int .i64 n :: xs => match intsOf xs with
    | some ns => some (n :: ns)
    | none => none
  | _ => none

theorem intsOf_map {xs : List AV} : ∀ {ns : List Int}, intsOf xs = some ns → xs = ns.map (AV.int .i64) := by
  induction xs with
  | nil => intro ns h; cases h; rfl
  | cons x xs ih =>
    intro ns h
    cases x with
    | int k n =>
      cases k with
      | i64 =>
        simp only [intsOf] at h
        split at h
        · rename_i ms hm
          cases h
          rw [ih hm]; rfl
        · cases h
      | _ => simp [intsOf] at h
    | _ => simp [intsOf] at h
theorem intsOf_ints (ns : List Int) : intsOf (ns.map (AV.int .i64)) = some ns := by
  induction ns with
  | nil => rfl
  | cons n ns ih => simp only [List.map_cons, intsOf, ih]

/-- Rows of whole numbers: what becomes of the numbers, and the answer. -/
def rowO (g : List Int → List Int) (r : Nat → Nat → Nat → List Int → AV) (none_ : AV → AV) (args : List AV) (M : Mem) : Option (AV × Mem) :=
  match args with
  | [.ref id ver off len] => match M.objs[id]? with
    | some (.row ver' cs) => if ver = ver' ∧ off = 0 ∧ len ≤ cs.length ∧ 0 < len ∧ len < 4611686018427387904 then
        match intsOf (cs.take len) with
        | some zs => some (r id ver len zs, M.put id (.row ver ((g zs).map (AV.int .i64) ++ cs.drop len)))
        | none => none
      else none
    | _ => none
  | [.list g k []] => some (none_ (.list g k []), M)
  | _ => none

def sortI (zs : List Int) : List Int := zs.mergeSort fun x y => decide (x ≤ y)
def compI (zs : List Int) : List Int := Lib.compact zs ++ List.replicate (zs.length - (Lib.compact zs).length) 0

def sortO : List AV → Mem → Option (AV × Mem) := rowO sortI (fun _ _ _ _ => .tuple []) fun _ => .tuple []
def compO : List AV → Mem → Option (AV × Mem) := rowO compI (fun id ver _ zs => .ref id ver 0 (Lib.compact zs).length) fun v => v.untag

theorem VR.int_of {s : Sim} {k : IntKind} {n : Int} {v : Value} (h : VR s (.int k n) v) : v = .int k n := by cases h; rfl

/-- A row of whole numbers is written anew. -/
theorem MR.putInts {w0 : Base} {s : Sim} {M : Mem} {w : World} (hm : MR w0 s M w) {id ver b : Nat} {cs : List AV} {c : Array Value} {e : TypeId} (hid : M.objs[id]? = some (.row ver cs)) (h1 : s.loc id = some (.row ver (some b) c.size)) (h2 : w.heap[b]? = some (.cells c e (0, 0)))
    (h3 : cs.length ≤ c.size) (h4 : ∀ (i : Nat) (x : AV) (v : Value), cs[i]? = some x → c[i]? = some v → VR s x v ∧ one v = true) (h5 : ∀ o, s.fz b o = none) {zs : List Int} (hz : zs.length ≤ cs.length) (q : Nat) (os : Array Obj) :
    ∃ s', s.le s' ∧ s'.loc id = some (.row ver (some b) c.size) ∧ MR w0 s' (M.put id (.row ver (zs.map (AV.int .i64) ++ cs.drop zs.length))) (grow (putRow (Value.int .i64) (Sort.ahead w q) b 0 zs.toArray) os) := by
  have hidl : id < M.objs.length := (List.getElem?_eq_some_iff.1 hid).1
  have hB : w0.heap.size ≤ b := hm.own id _ b h1 rfl
  have hg := grownBy_sortedI (w := w) (g := b) (n := q) (os := os) zs.toArray
  have hnew := heap_sortedI (n := q) (os := os) zs.toArray h2
  have hblt : b < w.heap.size := (Array.getElem?_eq_some_iff.1 h2).1
  have hsz : (putCells (Value.int .i64) 0 zs.toArray c).size = c.size := by simp [putCells]
  have hget : ∀ i v, (putCells (Value.int .i64) 0 zs.toArray c)[i]? = some v → if i < zs.length then v = .int .i64 (zs.getD i 0) else c[i]? = some v := by
    intro i v hv
    simp only [putCells, Array.getElem?_mapIdx, Option.map_eq_some_iff] at hv
    obtain ⟨u, hu, rfl⟩ := hv
    by_cases hlt : i < zs.length
    · rw [if_pos hlt, if_pos (by simpa using hlt)]
      simp [List.getD, hlt]
    · rw [if_neg hlt, if_neg (by simp; omega)]
      exact hu
  have mono : s.le { fz := s.fz, loc := (s.setLoc id (.row ver (some b) c.size)).loc, defs := s.defs } := ⟨fun _ _ _ h => h, fun i l hl => ⟨l, by
    simp only [Sim.setLoc]
    split
    · rename_i e; subst e; rw [h1] at hl; exact hl
    · exact hl, l.le_refl⟩, fun _ h => h⟩
  have hmain := hm.setObj hidl (.row ver (zs.map (AV.int .i64) ++ cs.drop zs.length)) (.row ver (some b) c.size) h1 (Loc.le_refl _)
    (grow (putRow (Value.int .i64) (Sort.ahead w q) b 0 zs.toArray) os) s.fz (fun _ _ _ h => h) (fun _ _ _ => rfl)
    (fun b' hb' hlt => hg.block b' hlt (fun e => hb' (by rw [Loc.block]; exact e.symm)))
    (hm.below.grown hg hm.below.size fun k hk => by cases hk; exact hB)
    (fun b' hb' => ⟨by cases hb'; exact hB, .inl hb'⟩)
    (fun b' o v hb' hf => by cases hb'; rw [h5 o] at hf; cases hf)
    ⟨b, _, e, by rw [hsz]; simp [Sim.setLoc], hnew, by rw [hsz]; simp; omega, fun i x v hx hv => by
      have h6 := hget i v hv
      rw [List.getElem?_append, List.length_map] at hx
      split at hx
      · rename_i hlt
        rw [if_pos hlt] at h6
        simp only [List.getElem?_map, List.getElem?_eq_getElem hlt, Option.map_some, Option.some.injEq] at hx
        subst hx; subst h6
        refine ⟨?_, rfl⟩
        simp only [List.getD, List.getElem?_eq_getElem hlt, Option.getD_some]
        exact .int _ _
      · rename_i hge
        rw [if_neg hge] at h6
        rw [List.getElem?_drop] at hx
        have := h4 i x v (by rw [← hx]; congr 1; omega) h6
        exact ⟨this.1.mono mono, this.2⟩, h5⟩ none
  exact ⟨_, hmain.1, by simp [Sim.setLoc], MR.put_of hm hmain.2⟩

/-- What the library does to a row of whole numbers. -/
theorem rowO_sound {P : Program} {okc : Nat → Code → C → Prop} {f : Nat} {fn : IFn} {g : List Int → List Int} {r : Nat → Nat → Nat → List Int → AV} {none_ : AV → AV} {res : Nat → Nat → List Int → Value} (ho : fn.orc = rowO g r none_)
    (hg : ∀ zs, (g zs).length = zs.length)
    (hr : ∀ (s : Sim) (id ver b cap n : Nat) (zs : List Int), s.loc id = some (.row ver (some b) n) → zs.length ≤ cap → (unitOf ver ≠ 0 → 0 + cap * unitOf ver ≤ n) → VR s (r id ver zs.length zs) (res b cap zs))
    (hn : ∀ (s : Sim) (x : AV) (v : Value), VR s x v → (∃ g k, x = .list g k []) → ∃ u, VR s (none_ x) u ∧ ∀ w, Calls P f #[v] w fun e w' => e = .returned u ∧ w' = w)
    (hc : ∀ (blk cap : Nat) (zs : List Int) (w : World), Holds (Value.int .i64) w blk 0 zs.toArray → blk < w.heap.size → zs.length < 4611686018427387904 → zs.length ≤ cap →
      Calls P f #[.slice (some ⟨blk, 0, none⟩) zs.length cap] w fun e w' => e = .returned (res blk cap zs) ∧ ∃ q os, w' = grow (putRow (Value.int .i64) (Sort.ahead w q) blk 0 (g zs).toArray) os) : OrcSound P okc f fn := by
  intro args M rv M' h
  rw [ho] at h
  unfold rowO at h
  split at h
  · rename_i id ver off len
    split at h
    · rename_i ver' cs hid
      split at h
      · rename_i hcond
        obtain ⟨rfl, rfl, hle, hpos, hbig⟩ := hcond
        split at h
        · rename_i zs hz
          simp only [Option.some.injEq, Prod.mk.injEq] at h
          obtain ⟨rfl, rfl⟩ := h
          refine ⟨Keeps.put _ _ _, fun w0 _ s w vs hm hl hv => ?_⟩
          have hzs := intsOf_map hz
          have hzl : zs.length = len := by
            have := congrArg List.length hzs
            simp only [List.length_take, List.length_map] at this
            omega
          obtain ⟨v, rfl⟩ : ∃ v, vs = [v] := by
            match vs, hl with
            | [v], _ => exact ⟨v, rfl⟩
          have hx := hv 0 _ v rfl rfl
          obtain ⟨b, c, e, h1, h2, h3, h4, h5⟩ := hm.obj id _ hid
          cases hx with
          | ref _ _ _ _ b2 cap ver2 b' nz hl2 hv2 hb hcap hzz =>
            rw [h1] at hl2
            cases hl2
            have hbb := hb rfl
            simp only [Option.some.injEq] at hbb
            subst hbb
            have htake : c.toList.take zs.length = zs.map (Value.int .i64) := by
              apply List.ext_getElem?
              intro i
              by_cases hi : i < zs.length
              · rw [List.getElem?_take, if_pos hi]
                have hic : i < c.size := by omega
                have hcs : cs[i]? = some (.int .i64 zs[i]) := by
                  have := congrArg (fun l => l[i]?) hzs
                  simp only [List.getElem?_take, List.getElem?_map] at this
                  rw [if_pos (by omega), List.getElem?_eq_getElem hi] at this
                  exact this
                have := (h4 i _ c[i] hcs (Array.getElem?_eq_getElem hic)).1.int_of
                rw [Array.getElem?_toList, Array.getElem?_eq_getElem hic, this]
                simp [hi]
              · rw [List.getElem?_eq_none (by simp; omega), List.getElem?_eq_none (by simp; omega)]
            have hH := holds_of_blockI h2 htake
            have hblt : b < w.heap.size := (Array.getElem?_eq_some_iff.1 h2).1
            have hcall := hc b cap zs w hH hblt (by omega) (by omega)
            rw [hzl] at hcall
            refine hcall.mono ?_
            rintro e' w' ⟨rfl, q, os, rfl⟩
            obtain ⟨s', k1, k2, k3⟩ := hm.putInts hid h1 h2 h3 h4 h5 (zs := g zs) (by rw [hg]; omega) q os
            refine ⟨_, s', rfl, k1, ?_, ?_⟩
            · have := hr s' id ver b cap c.size zs k2 (by omega) (fun hu => by have := hzz rfl hu; omega)
              rwa [hzl] at this
            · rw [hg, hzl] at k3
              exact k3
        · cases h
      · cases h
    · cases h
  · rename_i gt k
    simp only [Option.some.injEq, Prod.mk.injEq] at h
    obtain ⟨rfl, rfl⟩ := h
    refine ⟨Keeps.refl _, fun w0 _ s w vs hm hl hv => ?_⟩
    obtain ⟨v, rfl⟩ : ∃ v, vs = [v] := by
      match vs, hl with
      | [v], _ => exact ⟨v, rfl⟩
    obtain ⟨u, h1, h2⟩ := hn s _ v (hv 0 _ v rfl rfl) ⟨_, _, rfl⟩
    refine (h2 w).mono ?_
    rintro e w' ⟨rfl, rfl⟩
    exact ⟨u, s, rfl, .refl s, h1, hm⟩
  · cases h

theorem list0_slice {s : Sim} {g : Tag} {k : Nat} {v : Value} (h : VR s (.list g k []) v) : ∃ a cap, v = .slice a 0 cap := by
  cases h with
  | nil => exact ⟨_, _, rfl⟩
  | void => exact ⟨_, _, rfl⟩
  | list => exact ⟨_, _, rfl⟩

theorem sortO_sound {P : Program} {okc : Nat → Code → C → Prop} {f : Nat} {fn : IFn} (ho : fn.orc = sortO)
    (hc : ∀ (blk off cap : Nat) (zs : List Int) (w : World), Holds (Value.int .i64) w blk off zs.toArray → blk < w.heap.size → zs.length < 4611686018427387904 →
      Calls P f #[.slice (some ⟨blk, off, none⟩) zs.length cap] w fun e w' => e = .returned (.tuple #[]) ∧ ∃ n os, w' = grow (putRow (Value.int .i64) (Sort.ahead w n) blk off (zs.mergeSort fun x y => decide (x ≤ y)).toArray) os)
    (hn : ∀ (p : Option Addr) (cap : Nat) (w : World), Calls P f #[.slice p 0 cap] w fun e w' => e = .returned (.tuple #[]) ∧ w' = w) : OrcSound P okc f fn :=
  rowO_sound (res := fun _ _ _ => .tuple #[]) ho (fun zs => List.length_mergeSort zs) (fun _ _ _ _ _ _ _ _ _ _ => .tuple [] [] rfl (by simp))
    (fun s x v hx ⟨g, k, e⟩ => by
      subst e
      obtain ⟨a, cap, rfl⟩ := list0_slice hx
      exact ⟨.tuple #[], .tuple [] [] rfl (by simp), fun w => hn a cap w⟩)
    fun blk cap zs w h1 h2 h3 _ => hc blk 0 cap zs w h1 h2 h3

theorem compact_le (zs : List Int) : (Lib.compact zs).length ≤ zs.length := by
  simp only [Lib.compact, Lib.compactUpTo, List.length_map]
  exact Nat.le_trans (List.length_filter_le _ _) (by simp)

theorem compO_sound {P : Program} {okc : Nat → Code → C → Prop} {f : Nat} {fn : IFn} (ho : fn.orc = compO)
    (hc : ∀ (blk off cap : Nat) (zs : List Int) (w : World), Holds (Value.int .i64) w blk off zs.toArray → zs.length ≤ 9223372036854775807 → zs.length ≤ cap →
      Calls P f #[.slice (some ⟨blk, off, none⟩) zs.length cap] w fun e w' => e = .returned (.slice (some ⟨blk, off, none⟩) (Lib.compact zs).length cap) ∧ ∃ q, w' = putRow (Value.int .i64) (Sort.ahead w q) blk off (Lib.compact zs ++ List.replicate (zs.length - (Lib.compact zs).length) 0).toArray)
    (hn : ∀ (a : Option Addr) (cap : Nat) (w : World), Calls P f #[.slice a 0 cap] w fun e w' => e = .returned (.slice a 0 cap) ∧ w' = w) : OrcSound P okc f fn :=
  rowO_sound (res := fun b cap zs => .slice (some ⟨b, 0, none⟩) (Lib.compact zs).length cap) ho (fun zs => by have := compact_le zs; simp [compI]; omega)
    (fun s id ver b cap n zs hl hcap hz => .ref id ver 0 _ b cap ver (some b) n hl (Nat.le_refl _) (fun _ => rfl) (Nat.le_trans (compact_le zs) hcap) fun _ hu => hz hu)
    (fun s x v hx ⟨g, k, e⟩ => by
      subst e
      have hx2 := hx.untag
      obtain ⟨a, cap, rfl⟩ := list0_slice hx
      exact ⟨_, hx2, fun w => hn a cap w⟩)
    fun blk cap zs w h1 _ h3 h4 => by
      refine (hc blk 0 cap zs w h1 (by omega) h4).mono ?_
      rintro e w' ⟨rfl, q, rfl⟩
      exact ⟨rfl, q, #[], by rw [grow_empty]; rfl⟩

end Go.Am
