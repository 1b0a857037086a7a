/- The walk through the variables of a function. -/
import Derived.Test.YtdddcofggemnkaaDoorP16W13
namespace Go.Proofs.P16
set_option linter.all false
open Go Go.Am Go.Bdd
attribute [local irreducible] loadK storeK newK boxK tipK makeMapK buildTK buildK buildSliceK nilK binK unK condK convK eqvK pickK gK gDK vK extractK fieldK lookupK mapUpdateK appendK min2K max2K retK makeSliceK freezeK bytesK loopV blkK stayK sameK rangeK callK aFieldAddr aIndexAddr aIndexAddrA aLen aIndex aSlice

/-- What is left of a rising row when runs are made single. -/
theorem compact_up {d : Array Int} (hd : ∀ i j, i ≤ j → j < d.size → d[i]! ≤ d[j]!) : ∀ m, m ≤ d.size →
    (Lib.compactUpTo d m).Pairwise (· < ·) ∧ (∀ x, x ∈ Lib.compactUpTo d m ↔ ∃ i, i < m ∧ d[i]! = x) := by
  intro m
  induction m with
  | zero => intro _; exact ⟨by simp [Lib.compactUpTo], fun x => ⟨fun h => by simp [Lib.compactUpTo] at h, fun ⟨i, h, _⟩ => by omega⟩⟩
  | succ m ih =>
    intro hm
    obtain ⟨h1, h2⟩ := ih (by omega)
    rw [Lib.compactUpTo_succ]
    by_cases hk : Lib.keeps d m = true
    · rw [if_pos hk]
      constructor
      · rw [List.pairwise_append]
        refine ⟨h1, by simp, fun x hx y hy => ?_⟩
        rw [List.mem_singleton] at hy
        subst hy
        obtain ⟨i, i1, rfl⟩ := (h2 x).1 hx
        have hne : d[m]! ≠ d[m - 1]! := by
          simp only [Lib.keeps, decide_eq_true_eq] at hk
          exact hk.resolve_left (by omega)
        have a1 := hd i (m - 1) (by omega) (by omega)
        have a2 := hd (m - 1) m (by omega) (by omega)
        omega
      · intro x
        rw [List.mem_append, h2, List.mem_singleton]
        constructor
        · rintro (⟨i, i1, i2⟩ | rfl)
          · exact ⟨i, by omega, i2⟩
          · exact ⟨m, by omega, rfl⟩
        · rintro ⟨i, i1, i2⟩
          by_cases e : i = m
          · subst e; exact .inr i2.symm
          · exact .inl ⟨i, by omega, i2⟩
    · rw [if_neg hk, List.append_nil]
      refine ⟨h1, fun x => ?_⟩
      rw [h2]
      have h0 : m ≠ 0 ∧ d[m]! = d[m - 1]! := by
        simp only [Lib.keeps, decide_eq_true_eq, not_or, Classical.not_not] at hk
        exact hk
      constructor
      · rintro ⟨i, i1, i2⟩; exact ⟨i, by omega, i2⟩
      · rintro ⟨i, i1, i2⟩
        by_cases e : i = m
        · subst e; exact ⟨i - 1, by omega, by rw [← h0.2]; exact i2⟩
        · exact ⟨i, by omega, i2⟩

theorem sort_up {zs : List Int} : (Lib.compact (sortI zs)).Pairwise (· < ·) ∧ ∀ x, x ∈ Lib.compact (sortI zs) ↔ x ∈ zs := by
  have hp : (sortI zs).Pairwise (fun x y => decide (x ≤ y) = true) := List.pairwise_mergeSort (fun a b c h1 h2 => by simp at *; omega) (fun a b => by simp; omega) zs
  have hd : ∀ i j, i ≤ j → j < (sortI zs).toArray.size → (sortI zs).toArray[i]! ≤ (sortI zs).toArray[j]! := by
    intro i j hij hj
    have hj' : j < (sortI zs).length := by simpa using hj
    by_cases e : i = j
    · subst e; exact Int.le_refl _
    · have := List.pairwise_iff_getElem.1 hp i j (by omega) hj' (by omega)
      simp only [decide_eq_true_eq] at this
      rw [getElem!_pos (sortI zs).toArray i (by simpa using (show i < (sortI zs).length by omega)), getElem!_pos (sortI zs).toArray j hj]
      simpa using this
  obtain ⟨h1, h2⟩ := compact_up hd (sortI zs).length (by simp)
  refine ⟨h1, fun x => ?_⟩
  unfold Lib.compact
  rw [h2]
  have hm : x ∈ sortI zs ↔ x ∈ zs := List.mem_mergeSort
  rw [← hm, List.mem_iff_getElem]
  constructor
  · rintro ⟨i, i1, i2⟩
    refine ⟨i, i1, ?_⟩
    rw [getElem!_pos (sortI zs).toArray i (by simpa using i1)] at i2
    simpa using i2
  · rintro ⟨i, i1, i2⟩
    refine ⟨i, i1, ?_⟩
    rw [getElem!_pos (sortI zs).toArray i (by simpa using i1)]
    simpa using i2

theorem T23 : ∃ fn, T 23 = some fn ∧ fn.orc = sortO := ⟨_, rfl, rfl⟩
theorem T24 : ∃ fn, T 24 = some fn ∧ fn.orc = compO := ⟨_, rfl, rfl⟩

theorem call23 {m : Mem} {fr : Heap} {id ver : Nat} {zs : List Int} (h0 : 0 < zs.length) (hl : zs.length < 4611686018427387904) (hs : Sep m ((id, .row ver (zs.map vZ)) :: fr)) :
    Tells (Am.Call T 23 [.ref id ver 0 zs.length] m) fun x m' => x = .tuple [] ∧ Sep m' ((id, .row ver ((sortI zs).map vZ)) :: fr) := by
  obtain ⟨fn, hT, ho⟩ := T23
  refine Tells.orc (r := (.tuple [], m.put id (.row ver ((sortI zs).map (AV.int .i64) ++ (zs.map vZ).drop zs.length)))) hT ?_ ?_
  · rw [ho]
    simp only [sortO, rowO, hs.get .z]
    rw [if_pos ⟨trivial, trivial, by simp, h0, hl⟩, List.take_of_length_le (by simp), show zs.map vZ = zs.map (AV.int .i64) from rfl, intsOf_ints]
  · refine ⟨rfl, ?_⟩
    rw [List.drop_of_length_le (by simp), List.append_nil]
    exact hs.put .z
theorem call56n {m : Mem} {fr : Heap} {g : Tag} {k : Nat} (hs : Sep m fr) : Tells (Am.Call T 23 [.list g k []] m) fun x m' => x = .tuple [] ∧ Sep m' fr := by
  obtain ⟨fn, hT, ho⟩ := T23
  exact Tells.orc (r := (.tuple [], m)) hT (by rw [ho]; rfl) ⟨rfl, hs⟩
theorem call24 {m : Mem} {fr : Heap} {id ver : Nat} {zs : List Int} (h0 : 0 < zs.length) (hl : zs.length < 4611686018427387904) (hs : Sep m ((id, .row ver (zs.map vZ)) :: fr)) :
    Tells (Am.Call T 24 [.ref id ver 0 zs.length] m) fun x m' => x = .ref id ver 0 (Lib.compact zs).length ∧ Sep m' ((id, .row ver ((compI zs).map vZ)) :: fr) := by
  obtain ⟨fn, hT, ho⟩ := T24
  refine Tells.orc (r := (.ref id ver 0 (Lib.compact zs).length, m.put id (.row ver ((compI zs).map (AV.int .i64) ++ (zs.map vZ).drop zs.length)))) hT ?_ ?_
  · rw [ho]
    simp only [compO, rowO, hs.get .z]
    rw [if_pos ⟨trivial, trivial, by simp, h0, hl⟩, List.take_of_length_le (by simp), show zs.map vZ = zs.map (AV.int .i64) from rfl, intsOf_ints]
  · refine ⟨rfl, ?_⟩
    rw [List.drop_of_length_le (by simp), List.append_nil]
    exact hs.put .z
theorem call57n {m : Mem} {fr : Heap} {g : Tag} {k : Nat} (hs : Sep m fr) : Tells (Am.Call T 24 [.list g k []] m) fun x m' => (∃ g', x = .list g' k []) ∧ Sep m' fr :=
  by
  obtain ⟨fn, hT, ho⟩ := T24
  exact Tells.orc (r := ((AV.list g k []).untag, m)) hT (by rw [ho]; rfl) ⟨⟨_, rfl⟩, hs⟩

theorem flat_ints : ∀ {zs : List Int}, flat (zs.map vZ) = zs.map vZ := by
  intro zs
  induction zs with
  | nil => rfl
  | cons z zs ih => show (vZ z).cells ++ flat (zs.map vZ) = _; rw [ih]; rfl

/-- A row of numbers that lies in the memory, or none. -/
def RowV (x : AV) (H : Heap) (zs : List Int) : Prop := (∃ g k, x = .list g k [] ∧ zs = [] ∧ H = []) ∨ ∃ id ver cs, x = .ref id ver 0 zs.length ∧ H = [(id, .row ver cs)] ∧ ∀ (j : Nat) (z : Int), zs[j]? = some z → cs[j]? = some (vZ z)

/-- The variables of a function, rising. -/
structure VarsOf (f : BF) (zs : List Int) : Prop where
  up : zs.Pairwise (· < ·)
  mem : ∀ z : Int, z ∈ zs ↔ 0 ≤ z ∧ Hg f z.toNat
  len : zs.length ≤ f.nodes.length

theorem call6 {m : Mem} {fr : Heap} {v : AV} {f : BF} (hv : IsFn v f) (hl : f.nodes.length ≤ 256) (hs : Sep m fr) :
    Tells (Am.Call T 6 [v] m) fun x m' => ∃ H zs, RowV x H zs ∧ VarsOf f zs ∧ Sep m' (H ++ fr) := by
  obtain ⟨k, rfl, hk⟩ := hv
  refine Tells.fn (f.nodes.length + 1) rfl F6_ok rfl ?_
  show Tells (S6 (Am.Call T) _ m (.agg [.list .shared k (f.nodes.map encNd), .bool f.one])) _
  have h : Sep ⟨m.objs, none⟩ fr := hs.objs rfl
  have hlen : (f.nodes.map encNd).length = f.nodes.length := List.length_map _
  unfold S6 G6
  refine .boxA ‹_› ?_
  intro nw m h
  refine .fieldAddr ?_
  refine .load1 ‹_› .z (by rfl) ?_
  refine .lenL ?_
  refine Tells.loop (fun i vs m => ∃ (j : Nat) (v : AV) (H : Heap), j + i = f.nodes.length ∧ (j = 0 → v = .list .full 1 []) ∧ RowO v H 1 ((f.nodes.take j).map fun n => vI n.v) ∧ vs = [v, .list .shared k (f.nodes.map encNd), vI (f.nodes.map encNd).length, vI j] ∧ Sep m (H ++ fr)) ?_ (i := f.nodes.length) (by omega) ?_
  · rintro i vs m L ⟨j, v, H, i1, i0, i2, rfl, h⟩ hL
    by_cases hj : j < f.nodes.length
    · have hk : k = 3 := hk.resolve_right (by intro e; rw [e] at hj; simp at hj)
      subst hk
      obtain ⟨n, hn⟩ : ∃ n, f.nodes[j]? = some n := ⟨_, List.getElem?_eq_getElem hj⟩
      have hgn : (f.nodes.map encNd)[j]? = some (encNd n) := by rw [List.getElem?_map, hn]; rfl
      refine .lss ?_
      refine .condT (by first | assumption | omega) ?_
      refine .indexL (j := j) (by rfl) hgn ?_
      refine .loadCA (by rfl) ?_
      refine .new ‹_› ?_
      intro nw m h
      refine .storeA ‹_› .z (by rfl) (by rfl) ?_
      intro m h
      refine .fieldAddr ?_
      refine .load1 ‹_› .z (by rfl) ?_
      refine .bs1 ?_
      have h2 := Sep.hfront (l1 := [_]) h
      have ho : ∀ x ∈ (f.nodes.take j).map (fun n => vI n.v), x.cells.length = 1 := fun x hx => by
        obtain ⟨y, _, rfl⟩ := List.mem_map.1 hx
        rfl
      have hll : ((f.nodes.take j).map fun n => vI n.v).length = j := by rw [List.length_map, List.length_take]; omega
      refine Tells.appendRow i2 ho h2 (by rw [hll]; simp only [room]; omega) (by decide) (by rfl) (by rfl) ?_
      intro v' H' m i2' h
      refine .add (by rfl) (by omega) ?_
      refine hL (i - 1) _ _ (by omega) ⟨j + 1, v', H', by omega, fun e => by omega, ?_, rfl, (Sep.hfront (l1 := H') h).tail⟩
      rw [List.take_add_one, hn]
      simpa using i2'
    · rw [List.take_of_length_le (by omega)] at i2
      have hvars : VarsOf f (Lib.compact (sortI (f.nodes.map fun n => (n.v : Int)))) := by
        obtain ⟨u1, u2⟩ := sort_up (zs := f.nodes.map fun n => (n.v : Int))
        refine ⟨u1, fun z => ?_, ?_⟩
        · rw [u2, List.mem_map]
          constructor
          · rintro ⟨n, h1, rfl⟩; exact ⟨by omega, n, h1, by omega⟩
          · rintro ⟨h1, n, h2, h3⟩; exact ⟨n, h2, by omega⟩
        · have h1 := compact_le (sortI (f.nodes.map fun n => (n.v : Int)))
          have h2 : (sortI (f.nodes.map fun n => (n.v : Int))).length = f.nodes.length := by rw [sortI, List.length_mergeSort, List.length_map]
          omega
      rcases i2 with ⟨k', rfl, h1, rfl⟩ | ⟨id, ver, _, rfl, rfl⟩
      · have hn : f.nodes = [] := by simpa using h1
        refine .lss ?_
        refine .condF (by first | assumption | omega) ?_
        refine .blk ?_
        refine Tells.call rfl (call56n h) ?_
        rintro _ _ ⟨rfl, h⟩
        skip
        refine Tells.call rfl (call57n h) ?_
        rintro _ _ ⟨⟨g', rfl⟩, h⟩
        refine .ret (by rfl) (r := .list .shared k' []) (by rfl) ?_
        intro m hobj
        refine ⟨[], [], .inl ⟨_, _, rfl, rfl, rfl⟩, ?_, h.objs hobj⟩
        simpa [hn, sortI, Lib.compact, Lib.compactUpTo] using hvars
      · have hpos : 0 < f.nodes.length := by
          refine Nat.pos_of_ne_zero fun e => ?_
          have := i0 (by omega)
          cases this
        have es : f.nodes.map (fun n => vI n.v) = (f.nodes.map fun n => (n.v : Int)).map vZ := by simp
        have hfl : flat (f.nodes.map fun n => vI n.v) = (f.nodes.map fun n => (n.v : Int)).map vZ := by rw [es, flat_ints]
        rw [hfl] at h
        have hl1 : (f.nodes.map fun n => vI n.v).length = (f.nodes.map fun n => (n.v : Int)).length := by simp
        rw [hl1]
        have hl2 : (f.nodes.map fun n => (n.v : Int)).length = (sortI (f.nodes.map fun n => (n.v : Int))).length := by rw [sortI, List.length_mergeSort]
        refine .lss ?_
        refine .condF (by first | assumption | omega) ?_
        refine .blk ?_
        refine Tells.call rfl (call23 (by simpa using hpos) (by rw [List.length_map]; omega) h) ?_
        rintro _ _ ⟨rfl, h⟩
        rw [hl2]
        skip
        refine Tells.call rfl (call24 (by rw [← hl2]; simpa using hpos) (by rw [← hl2, List.length_map]; omega) h) ?_
        rintro _ _ ⟨rfl, h⟩
        refine .ret1 (by rfl) ?_
        intro m hobj
        refine ⟨_, _, .inr ⟨_, _, _, rfl, rfl, fun j z hz => ?_⟩, hvars, h.objs hobj⟩
        rw [compI, List.map_append, List.getElem?_append_left (by rw [List.length_map]; exact (List.getElem?_eq_some_iff.1 hz).1), List.getElem?_map, hz]
        rfl
  · exact ⟨0, _, [], by omega, fun _ => rfl, RowO.nil, rfl, h.tail⟩
end Go.Proofs.P16
