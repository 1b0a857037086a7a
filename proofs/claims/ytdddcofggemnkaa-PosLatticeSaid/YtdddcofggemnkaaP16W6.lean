/- The walk through the functions: joins, variables, one left out. -/
import Derived.Test.YtdddcofggemnkaaP16W5
namespace Go.Proofs.P16
set_option linter.all false
open Go Go.Am Go.Bdd
attribute [local irreducible] loadK storeK newK boxK tipK makeMapK buildTK buildK buildSliceK nilK binK unK condK convK eqvK pickK gK gDK vK extractK fieldK lookupK mapUpdateK appendK min2K max2K retK makeSliceK freezeK bytesK loopV blkK stayK sameK rangeK callK aFieldAddr aIndexAddr aIndexAddrA aLen aIndex aSlice

theorem gd_const {K : Nat} {b : Bool} : Gd K ⟨[], b⟩ := ⟨can_const, by simp⟩
theorem gd_var {K v : Nat} (h : v < K) (hK : K ≤ 32) : Gd K ⟨[⟨v, 0, 1⟩], false⟩ where
  made _ := ⟨rfl, [⟨v, 0, 1⟩], 2, 3, [(0, 0), (1, 1), (2, 2)], 2, ⟨.snoc .nil ⟨by simp, by simp, by simp, by show v < top [] 0; simp only [top, far]; simp; omega, by show v < top [] 1; simp only [top, far]; simp; omega, by show v < far; simp only [far]; omega⟩ (by simp), by simp; omega⟩, by omega, by simp, by omega, by rfl⟩
  len := by simp
theorem sem_var {v : Nat} {ρ : Nat → Bool} : BF.sem ⟨[⟨v, 0, 1⟩], false⟩ ρ = ρ v := by
  show sem ([] ++ [⟨v, 0, 1⟩]) (([] : List Nd).length + 2) ρ = ρ v
  rw [sem_snoc]
  show (if ρ v then sem [] 1 ρ else sem [] 0 ρ) = ρ v
  rw [sem_one, sem_zero]; cases ρ v <;> rfl

/-- What is told of a function that is made: what it should be, or it would be too great. -/
def Res (K : Nat) (fr : Heap) (g : (Nat → Bool) → Bool) (x : AV) (m' : Mem) : Prop := ∃ f, IsFn x f ∧ Sep m' fr ∧ Gd K f ∧ Tkn K f g

theorem call44 {K ef : Nat} {en : Nat → Nat → Option Nat} {op : Bool → Bool → Bool} (he : EndOk en op) (hen : EndFn ef en) (hK : K ≤ 32) {m : Mem} {fr : Heap} {v w : AV} {f g : BF} (hv : IsFn v f) (hw : IsFn w g) (hf : Gd K f) (hg : Gd K g) (hs : Sep m fr) {tg : Tag} :
    Tells (Am.Call T 44 [.func ef [] [], v, .list tg 2 [w]] m) (Res K fr fun ρ => op (f.sem ρ) (g.sem ρ)) := by
  have hpow : 2 ^ K ≤ 2 ^ 32 := Nat.pow_le_pow_right (by omega) hK
  have hcap : ∀ t, cap K t ≤ 2 ^ K := fun t => cap_le
  obtain ⟨k1, rfl, hk1⟩ := hv
  obtain ⟨k2, rfl, hk2⟩ := hw
  refine Tells.fn 2 rfl F44_ok rfl ?_
  show Tells (S44 (Am.Call T) _ m (.func ef [] []) (.agg [.list .shared k1 (f.nodes.map encNd), .bool f.one]) (.list tg 2 [.agg [.list .shared k2 (g.nodes.map encNd), .bool g.one]])) _
  have h : Sep ⟨m.objs, none⟩ fr := hs.objs rfl
  unfold S44 G44
  refine .boxA ‹_› ?_
  intro nw m h
  refine .new ‹_› ?_
  intro nw m h
  rename_i _ _ b2 _ _
  refine Tells.call rfl (call46 h) ?_
  rintro _ m1 ⟨p, t, mm, rfl, h⟩
  refine .loadA ‹_› (.s (.s (.s (.s .z)))) (by rfl) ?_
  refine Tells.call rfl (call48 ⟨k1, rfl, hk1⟩ hf ⟨.nil, fun n hn => by cases hn⟩ (by simp) h) ?_
  rintro _ m2 ⟨ns1, r1, rfl, h, d1⟩
  have l1 := d1.cnt
  simp only [List.length_nil, Nat.zero_add] at l1
  have tp1 : ∀ {ns : List Nd} {a : Nat}, cap K (top ns a) ≤ 2 ^ 32 := fun {ns a} => Nat.le_trans (hcap _) hpow
  refine .lenL ?_
  refine Tells.loop (fun i vs m => ∃ ns a, Tb K ns ∧ a < ns.length + 2 ∧ ns.length ≤ 512 + 2 ^ 32 ∧ vs = [.func ef [] [], .ptr nw 0 0, .ptr p 0 0, vI a, .list tg 2 [.agg [.list .shared k2 (g.nodes.map encNd), .bool g.one]], vI 1, vI (1 - i)] ∧
    Sep m (tab p t mm ns ((nw, .row 0 [.list .full 0 [], .bool false]) :: (b2, .row 0 [.list .shared k1 (f.nodes.map encNd), .bool f.one]) :: fr)) ∧
    (i = 1 → ns.length ≤ 256 ∧ ∀ ρ, sem ns a ρ = f.sem ρ) ∧ (i = 0 → ∀ ρ, sem ns a ρ = op (f.sem ρ) (g.sem ρ)) ∧ i ≤ 1) ?_ (i := 1) (by omega) ?_
  · rintro i vs m L ⟨ns, a, i1, i2, i3, rfl, h, i5, i6, i7⟩ hL
    by_cases hi : i = 0
    · subst hi
      have i6 := i6 rfl
      refine .lss ?_
      refine .condff ?_
      refine .blk ?_
      refine Tells.call rfl (call51 i1 i2 hK (by omega) h) ?_
      rintro _ m3 ⟨q, ⟨k3, rfl, hk3⟩, h, q2, q3⟩
      refine .storeA ‹_› (.s (.s (.s .z))) (by rfl) (by rfl) ?_
      intro m h
      refine .loadA ‹_› (.s (.s (.s .z))) (by rfl) ?_
      refine .ret1 (by rfl) ?_
      intro m hobj
      refine ⟨q, ⟨k3, rfl, hk3⟩, ?_, q2, q3.congr fun ρ => i6 ρ⟩
      exact (h.objs hobj).tail.tail.tail.tail.tail
    · have hi : i = 1 := by omega
      subst hi
      obtain ⟨i8, i9⟩ := i5 rfl
      refine .lss ?_
      refine .condtt ?_
      refine .indexL (j := 0) (by rfl) (by rfl) ?_
      refine .loadCA (by rfl) ?_
      refine .new ‹_› ?_
      intro nw m h
      refine .storeA ‹_› .z (by rfl) (by rfl) ?_
      intro m h
      refine .loadA ‹_› .z (by rfl) ?_
      rename_i _ _ b3 _ _
      refine Tells.call rfl (call48 (fr := _) ⟨k2, rfl, hk2⟩ hg i1 (by omega) (h.mvs [0, 3, 3, 3])) ?_
      rintro _ m3 ⟨ns2, r2, rfl, h, d2⟩
      have l2 := d2.cnt
      have l2' := pre_len d2.pre
      skip
      refine Tells.call rfl (call47 he hen d2.tb (by omega) d2.val (by have := @tp1 ns2 a; have := @tp1 ns2 r2; have := hcap (min (top ns2 a) (top ns2 r2)); omega) h) ?_
      rintro _ m4 ⟨ns3, r3, rfl, h, d3⟩
      have l3 := d3.cnt
      have := hcap (min (top ns2 a) (top ns2 r2))
      refine .add (by rfl) (by omega) ?_
      refine hL 0 _ _ (by omega) ⟨ns3, r3, d3.tb, d3.val, by omega, rfl, (h.mvs [2, 2, 2, 3]).tail, fun h => by omega, fun _ ρ => ?_, by omega⟩
      rw [d3.sem, d2.sem, sem_pre d2.pre i2, i9]
  · exact ⟨ns1, r1, d1.tb, d1.val, by omega, rfl, h, fun _ => ⟨by omega, d1.sem⟩, fun h => by omega, by omega⟩

theorem call11 {K : Nat} (hK : K ≤ 32) {m : Mem} {fr : Heap} {v w : AV} {f g : BF} (hv : IsFn v f) (hw : IsFn w g) (hf : Gd K f) (hg : Gd K g) (hs : Sep m fr) :
    Tells (Am.Call T 11 [v, w] m) (Res K fr fun ρ => f.sem ρ && g.sem ρ) := by
  obtain ⟨k1, rfl, hk1⟩ := hv
  obtain ⟨k2, rfl, hk2⟩ := hw
  refine Tells.fn 0 rfl F11_ok rfl ?_
  show Tells (S11 (Am.Call T) 0 m (.agg [.list .shared k1 (f.nodes.map encNd), .bool f.one]) (.agg [.list .shared k2 (g.nodes.map encNd), .bool g.one])) _
  have h : Sep ⟨m.objs, none⟩ fr := hs.objs rfl
  unfold S11 G11
  refine .boxA ‹_› ?_
  intro nw m h
  refine .boxA ‹_› ?_
  intro nw m h
  refine .new ‹_› ?_
  intro nw m h
  refine .loadA ‹_› (.s (.s .z)) (by rfl) ?_
  refine .loadA ‹_› (.s .z) (by rfl) ?_
  refine .bsA (by rfl) (by rfl) (by rfl) (by decide) (by decide) ?_
  refine Tells.call rfl (call44 andOk and_fn hK ⟨k1, rfl, hk1⟩ ⟨k2, rfl, hk2⟩ hf hg h) ?_
  rintro _ m3 ⟨q, ⟨k3, rfl, hk3⟩, h, q2, q3⟩
  refine .storeA ‹_› .z (by rfl) (by rfl) ?_
  intro m h
  refine .loadA ‹_› .z (by rfl) ?_
  refine .ret1 (by rfl) ?_
  intro m hobj
  exact ⟨q, ⟨k3, rfl, hk3⟩, (h.objs hobj).tail.tail.tail, q2, q3⟩

theorem call23 {K : Nat} (hK : K ≤ 32) {m : Mem} {fr : Heap} {v w : AV} {f g : BF} (hv : IsFn v f) (hw : IsFn w g) (hf : Gd K f) (hg : Gd K g) (hs : Sep m fr) :
    Tells (Am.Call T 23 [v, w] m) (Res K fr fun ρ => f.sem ρ || g.sem ρ) := by
  obtain ⟨k1, rfl, hk1⟩ := hv
  obtain ⟨k2, rfl, hk2⟩ := hw
  refine Tells.fn 0 rfl F23_ok rfl ?_
  show Tells (S23 (Am.Call T) 0 m (.agg [.list .shared k1 (f.nodes.map encNd), .bool f.one]) (.agg [.list .shared k2 (g.nodes.map encNd), .bool g.one])) _
  have h : Sep ⟨m.objs, none⟩ fr := hs.objs rfl
  unfold S23 G23
  refine .boxA ‹_› ?_
  intro nw m h
  refine .boxA ‹_› ?_
  intro nw m h
  refine .new ‹_› ?_
  intro nw m h
  refine .loadA ‹_› (.s (.s .z)) (by rfl) ?_
  refine .loadA ‹_› (.s .z) (by rfl) ?_
  refine .bsA (by rfl) (by rfl) (by rfl) (by decide) (by decide) ?_
  refine Tells.call rfl (call44 orOk or_fn hK ⟨k1, rfl, hk1⟩ ⟨k2, rfl, hk2⟩ hf hg h) ?_
  rintro _ m3 ⟨q, ⟨k3, rfl, hk3⟩, h, q2, q3⟩
  refine .storeA ‹_› .z (by rfl) (by rfl) ?_
  intro m h
  refine .loadA ‹_› .z (by rfl) ?_
  refine .ret1 (by rfl) ?_
  intro m hobj
  exact ⟨q, ⟨k3, rfl, hk3⟩, (h.objs hobj).tail.tail.tail, q2, q3⟩

/-- The function of a number: a variable, or true. -/
def varB (z : Int) : BF := if z < 0 then ⟨[], true⟩ else ⟨[⟨z.toNat, 0, 1⟩], false⟩
theorem gd_varB {K : Nat} (hK : K ≤ 32) {z : Int} (hz : z < K) : Gd K (varB z) := by
  unfold varB; split
  · exact gd_const
  · exact gd_var (by omega) hK
def semZ (z : Int) (ρ : Nat → Bool) : Bool := decide (z < 0) || ρ z.toNat
theorem sem_varB {z : Int} {ρ : Nat → Bool} : (varB z).sem ρ = semZ z ρ := by
  unfold varB semZ; split
  · rename_i h; rw [sem_const, decide_eq_true h]; rfl
  · rename_i h; rw [sem_var, decide_eq_false h]; rfl

theorem call25 {m : Mem} {fr : Heap} {z : Int} (hs : Sep m fr) :
    Tells (Am.Call T 25 [.int .i64 z] m) fun x m' => IsFn x (varB z) ∧ Sep m' fr := by
  refine Tells.fn 0 rfl F25_ok rfl ?_
  show Tells (S25 (Am.Call T) 0 m (.int .i64 z)) _
  have h : Sep ⟨m.objs, none⟩ fr := hs.objs rfl
  unfold S25 G25
  unfold varB
  by_cases hz : z < 0
  · rw [if_pos hz]
    refine .new ‹_› ?_
    intro nw m h
    refine .lss ?_
    refine .condT (by first | assumption | omega) ?_
    refine Tells.call rfl (call10 h) ?_
    rintro _ m3 ⟨⟨k3, rfl, hk3⟩, h⟩
    refine .storeA ‹_› .z (by rfl) (by rfl) ?_
    intro m h
    refine .loadA ‹_› .z (by rfl) ?_
    refine .ret1 (by rfl) ?_
    intro m hobj
    exact ⟨⟨k3, rfl, hk3⟩, (h.objs hobj).tail⟩
  · rw [if_neg hz]
    refine .new ‹_› ?_
    intro nw m h
    refine .lss ?_
    refine .condF (by first | assumption | omega) ?_
    refine .build3 ?_
    refine .bsA (by rfl) (by rfl) (by rfl) (by decide) (by decide) ?_
    refine .build (cs := [.list .shared 3 [.agg [.int .i64 z, .int .i64 0, .int .i64 1]], .bool false]) (by rfl) ?_
    refine .storeA ‹_› .z (by rfl) (by rfl) ?_
    intro m h
    refine .loadA ‹_› .z (by rfl) ?_
    refine .ret1 (by rfl) ?_
    intro m hobj
    obtain ⟨n, rfl⟩ : ∃ n : Nat, z = n := ⟨z.toNat, by omega⟩
    exact ⟨⟨3, rfl, .inl rfl⟩, (h.objs hobj).tail⟩

theorem call24 {K : Nat} (hK : K ≤ 32) {m : Mem} {fr : Heap} {v : AV} {f : BF} {z : Int} (hv : IsFn v f) (hf : Gd K f) (hz : z < 1000000) (hs : Sep m fr) :
    Tells (Am.Call T 24 [v, .int .i64 z] m) (Res K fr fun ρ => if z < 0 then f.sem ρ else f.sem (upd ρ z.toNat false) || f.sem (upd ρ z.toNat true)) := by
  have hpow : 2 ^ K ≤ 2 ^ 32 := Nat.pow_le_pow_right (by omega) hK
  have hcap : ∀ t, cap K t ≤ 2 ^ 32 := fun t => Nat.le_trans cap_le hpow
  obtain ⟨k1, rfl, hk1⟩ := hv
  refine Tells.fn 0 rfl F24_ok rfl ?_
  show Tells (S24 (Am.Call T) 0 m (.agg [.list .shared k1 (f.nodes.map encNd), .bool f.one]) (.int .i64 z)) _
  have h : Sep ⟨m.objs, none⟩ fr := hs.objs rfl
  unfold S24 G24
  by_cases hz0 : z < 0
  · refine .boxA ‹_› ?_
    intro nw m h
    refine .new ‹_› ?_
    intro nw m h
    refine .lss ?_
    refine .condT (by first | assumption | omega) ?_
    refine .loadA ‹_› (.s .z) (by rfl) ?_
    refine .storeA ‹_› .z (by rfl) (by rfl) ?_
    intro m h
    refine .loadA ‹_› .z (by rfl) ?_
    refine .ret1 (by rfl) ?_
    intro m hobj
    exact ⟨f, ⟨k1, rfl, hk1⟩, (h.objs hobj).tail.tail, hf, f, hf.toCan, fun ρ => by show _ = if z < 0 then _ else _; rw [if_pos hz0], hf.toCan.cap, by rw [if_neg (by have := hf.len; omega)]⟩
  · obtain ⟨n, rfl⟩ : ∃ n : Nat, z = n := ⟨z.toNat, by omega⟩
    have hn : n < far := by simp only [far]; omega
    refine .boxA ‹_› ?_
    intro nw m h
    refine .new ‹_› ?_
    intro nw m h
    refine .lss ?_
    refine .condff ?_
    rename_i _ _ b2 _ _
    refine Tells.call rfl (call46 h) ?_
    rintro _ m1 ⟨p, t, mm, rfl, h⟩
    refine .loadA ‹_› (.s (.s (.s (.s .z)))) (by rfl) ?_
    refine Tells.call rfl (call48 ⟨k1, rfl, hk1⟩ hf ⟨.nil, fun n hn => by cases hn⟩ (by simp) h) ?_
    rintro _ m2 ⟨ns1, r1, rfl, h, d1⟩
    have l1 := d1.cnt
    simp only [List.length_nil, Nat.zero_add] at l1
    skip
    obtain ⟨ns2, r2, e2, d2⟩ := with_spec (K := K) (v := n) (is := false) hn (r1 + 1) (Nat.lt_succ_self r1) d1.tb d1.val
    have c1 := hcap (top ns1 r1)
    refine Tells.call rfl (call60 (K := K) hn (r1 + 1) e2 (Nat.lt_succ_self r1) d1.tb d1.val (by omega) h) ?_
    rintro _ m3 ⟨rfl, h⟩
    have l2 := d2.cnt
    have l2' := pre_len d2.pre
    have v1 := d1.val
    obtain ⟨ns3, r3, e3, d3⟩ := with_spec (K := K) (v := n) (is := true) hn (r1 + 1) (Nat.lt_succ_self r1) d2.tb (by omega)
    have c2 := hcap (top ns2 r1)
    skip
    refine Tells.call rfl (call60 (K := K) hn (r1 + 1) e3 (Nat.lt_succ_self r1) d2.tb (by omega) (by omega) h) ?_
    rintro _ m4 ⟨rfl, h⟩
    have l3 := d3.cnt
    have l3' := pre_len d3.pre
    have v2 := d2.val
    have c3 := hcap (min (top ns3 r2) (top ns3 r3))
    skip
    refine Tells.call rfl (call47 orOk or_fn d3.tb (by omega) d3.val (by omega) h) ?_
    rintro _ m5 ⟨ns4, r4, rfl, h, d4⟩
    have l4 := d4.cnt
    skip
    refine Tells.call rfl (call51 d4.tb d4.val hK (by omega) h) ?_
    rintro _ m6 ⟨q, ⟨k3, rfl, hk3⟩, h, q2, q3⟩
    refine .storeA ‹_› (.s (.s (.s .z))) (by rfl) (by rfl) ?_
    intro m h
    refine .loadA ‹_› (.s (.s (.s .z))) (by rfl) ?_
    refine .ret1 (by rfl) ?_
    intro m hobj
    refine ⟨q, ⟨k3, rfl, hk3⟩, (h.objs hobj).tail.tail.tail.tail.tail, q2, q3.congr fun ρ => ?_⟩
    show _ = if ((n : Int) < 0) then _ else _
    rw [if_neg hz0, d4.sem, sem_pre d3.pre v2, d2.sem, d3.sem, sem_pre d2.pre v1, d1.sem, d1.sem]
    rfl

abbrev vZ (z : Int) : AV := .int .i64 z
/-- A value is a row of numbers. -/
def IsInts (v : AV) (zs : List Int) : Prop := ∃ k, v = .list .shared k (zs.map vZ) ∧ (k = 1 ∨ zs = [])

theorem call79 {m : Mem} {fr : Heap} {v : AV} {zs : List Int} (hv : IsInts v zs) (hl : zs.length < 1152921504606846976) {z : Int} (hs : Sep m fr) :
    Tells (Am.Call T 79 [v, .int .i64 z] m) fun x m' => (∃ r : Int, x = .int .i64 r ∧ (0 ≤ r ↔ z ∈ zs)) ∧ Sep m' fr := by
  obtain ⟨k, rfl, hk⟩ := hv
  refine Tells.fn (zs.length + 1) rfl F79_ok rfl ?_
  show Tells (S79 (Am.Call T) _ m (.list .shared k (zs.map vZ)) (.int .i64 z)) _
  have h : Sep ⟨m.objs, none⟩ fr := hs.objs rfl
  unfold S79 G79
  refine .lenL ?_
  rw [List.length_map]
  refine Tells.loop (fun i vs m => ∃ j : Nat, j + i = zs.length ∧ z ∉ zs.take j ∧ Sep m fr ∧ vs = [.list .shared k (zs.map vZ), .int .i64 z, vI zs.length, vI j]) ?_ (i := zs.length) (by omega) ?_
  · rintro i vs m L ⟨j, i1, i2, h, rfl⟩ hL
    by_cases hj : j < zs.length
    · obtain ⟨y, hy⟩ : ∃ y, zs[j]? = some y := ⟨_, List.getElem?_eq_getElem hj⟩
      have hgy : (zs.map vZ)[j]? = some (.int .i64 y) := by rw [List.getElem?_map, hy]; rfl
      have hk : k = 1 := hk.resolve_right (by rintro rfl; simp at hj)
      subst hk
      by_cases he : z = y
      · refine .lss ?_
        refine .condT (by first | assumption | omega) ?_
        refine .indexL (j := j) (by rfl) hgy ?_
        refine .loadC1 (by rfl) ?_
        refine .eql ?_
        refine .condT (by first | assumption | omega) ?_
        refine .blkR ?_
        refine .ret1 (by rfl) ?_
        intro m hobj
        exact ⟨⟨j, rfl, fun _ => he ▸ List.mem_of_getElem? hy, fun _ => by omega⟩, h.objs hobj⟩
      · refine .lss ?_
        refine .condT (by first | assumption | omega) ?_
        refine .indexL (j := j) (by rfl) hgy ?_
        refine .loadC1 (by rfl) ?_
        refine .eql ?_
        refine .condF (by first | assumption | omega) ?_
        refine .add (by rfl) (by omega) ?_
        refine hL (i - 1) _ _ (by omega) ⟨j + 1, by omega, ?_, h, by simp⟩
        rw [List.take_add_one, hy]
        simp only [Option.toList_some, List.mem_append, List.mem_singleton, not_or]
        exact ⟨i2, he⟩
    · refine .lss ?_
      refine .condF (by first | assumption | omega) ?_
      refine .blk ?_
      refine .ret1 (by rfl) ?_
      intro m hobj
      refine ⟨⟨-1, rfl, fun h => by omega, fun h => absurd h ?_⟩, h.objs hobj⟩
      rwa [List.take_of_length_le (by omega)] at i2
  · exact ⟨0, by omega, by simp, h, rfl⟩

theorem call49 {m : Mem} {fr : Heap} {v : AV} {zs : List Int} (hv : IsInts v zs) (hl : zs.length < 1152921504606846976) {z : Int} (hs : Sep m fr) :
    Tells (Am.Call T 49 [v, .int .i64 z] m) fun x m' => x = .bool (decide (z ∈ zs)) ∧ Sep m' fr := by
  obtain ⟨k, rfl, hk⟩ := hv
  refine Tells.fn 0 rfl F49_ok rfl ?_
  show Tells (S49 (Am.Call T) 0 m (.list .shared k (zs.map vZ)) (.int .i64 z)) _
  have h : Sep ⟨m.objs, none⟩ fr := hs.objs rfl
  unfold S49 G49
  refine Tells.call rfl (call79 ⟨k, rfl, hk⟩ hl h) ?_
  rintro _ m1 ⟨⟨r, rfl, hr⟩, h⟩
  refine .geq ?_
  refine .ret1 (by rfl) ?_
  intro m hobj
  refine ⟨?_, h.objs hobj⟩
  simp only [hr]

theorem call13 {m : Mem} {fr : Heap} {v : AV} {f : BF} (hv : IsFn v f) (hs : Sep m fr) :
    Tells (Am.Call T 13 [v] m) fun x m' => x = vI f.nodes.length ∧ Sep m' fr := by
  obtain ⟨k, rfl, hk⟩ := hv
  refine Tells.fn 0 rfl F13_ok rfl ?_
  show Tells (S13 (Am.Call T) 0 m (.agg [.list .shared k (f.nodes.map encNd), .bool f.one])) _
  have h : Sep ⟨m.objs, none⟩ fr := hs.objs rfl
  unfold S13 G13
  refine .boxA ‹_› ?_
  intro nw m h
  refine .fieldAddr ?_
  refine .load1 ‹_› .z (by rfl) ?_
  refine .lenL ?_
  refine .ret1 (by rfl) ?_
  intro m hobj
  exact ⟨by rw [List.length_map], (h.objs hobj).tail⟩
end Go.Proofs.P16
