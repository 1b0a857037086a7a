/- The walk through the functions: joins, variables, one left out. -/
import Derived.Test.YtdddcofggemnkaaDoorP16W4
namespace Go.Proofs.P16
set_option linter.all false
open Go Go.Am Go.Bdd
attribute [local irreducible] loadK storeK newK boxK tipK makeMapK buildTK buildK buildSliceK nilK binK unK condK convK eqvK pickK gK gDK vK extractK fieldK lookupK mapUpdateK appendK min2K max2K retK makeSliceK freezeK bytesK loopV blkK stayK sameK rangeK callK aFieldAddr aIndexAddr aIndexAddrA aLen aIndex aSlice

theorem gd_const {K : Nat} {b : Bool} : Gd K ⟨[], b⟩ := ⟨can_const, by simp⟩
theorem gd_var {K v : Nat} (h : v < K) (hK : K ≤ 32) : Gd K ⟨[⟨v, 0, 1⟩], false⟩ where
  made _ := ⟨rfl, [⟨v, 0, 1⟩], 2, 3, [(0, 0), (1, 1), (2, 2)], 2, ⟨.snoc .nil ⟨by simp, by simp, by simp, by show v < top [] 0; simp only [top, far]; simp; omega, by show v < top [] 1; simp only [top, far]; simp; omega, by show v < far; simp only [far]; omega⟩ (by simp), by simp; omega⟩, by omega, by simp, by omega, by rfl⟩
  len := by simp
theorem sem_var {v : Nat} {ρ : Nat → Bool} : BF.sem ⟨[⟨v, 0, 1⟩], false⟩ ρ = ρ v := by
  show sem ([] ++ [⟨v, 0, 1⟩]) (([] : List Nd).length + 2) ρ = ρ v
  rw [sem_snoc]
  show (if ρ v then sem [] 1 ρ else sem [] 0 ρ) = ρ v
  rw [sem_one, sem_zero]; cases ρ v <;> rfl

/-- What is told of a function that is made: what it should be, or it would be too great. -/
def Res (K : Nat) (fr : Heap) (g : (Nat → Bool) → Bool) (x : AV) (m' : Mem) : Prop := ∃ f, IsFn x f ∧ Sep m' fr ∧ Gd K f ∧ Tkn K f g

theorem call37 {K ef : Nat} {en : Nat → Nat → Option Nat} {op : Bool → Bool → Bool} (he : EndOk en op) (hen : EndFn ef en) (hK : K ≤ 32) {m : Mem} {fr : Heap} {v w : AV} {f g : BF} (hv : IsFn v f) (hw : IsFn w g) (hf : Gd K f) (hg : Gd K g) (hs : Sep m fr) {tg : Tag} :
    Tells (Am.Call T 37 [.func ef [] [], v, .list tg 2 [w]] m) (Res K fr fun ρ => op (f.sem ρ) (g.sem ρ)) := by
  have hpow : 2 ^ K ≤ 2 ^ 32 := Nat.pow_le_pow_right (by omega) hK
  have hcap : ∀ t, cap K t ≤ 2 ^ K := fun t => cap_le
  obtain ⟨k1, rfl, hk1⟩ := hv
  obtain ⟨k2, rfl, hk2⟩ := hw
  refine Tells.fn 2 rfl F37_ok rfl ?_
  show Tells (S37 (Am.Call T) _ m (.func ef [] []) (.agg [.list .shared k1 (f.nodes.map encNd), .bool f.one]) (.list tg 2 [.agg [.list .shared k2 (g.nodes.map encNd), .bool g.one]])) _
  have h : Sep ⟨m.objs, none⟩ fr := hs.objs rfl
  unfold S37 G37
  refine .boxA ‹_› ?_
  intro nw m h
  refine .new ‹_› ?_
  intro nw m h
  rename_i _ _ b2 _ _
  refine Tells.call rfl (call26 h) ?_
  rintro _ m1 ⟨p, t, mm, rfl, h⟩
  refine .loadA ‹_› (.s (.s (.s (.s .z)))) (by rfl) ?_
  refine Tells.call rfl (call28 ⟨k1, rfl, hk1⟩ hf ⟨.nil, fun n hn => by cases hn⟩ (by simp) h) ?_
  rintro _ m2 ⟨ns1, r1, rfl, h, d1⟩
  have l1 := d1.cnt
  simp only [List.length_nil, Nat.zero_add] at l1
  have tp1 : ∀ {ns : List Nd} {a : Nat}, cap K (top ns a) ≤ 2 ^ 32 := fun {ns a} => Nat.le_trans (hcap _) hpow
  refine .lenL ?_
  refine Tells.loop (fun i vs m => ∃ ns a, Tb K ns ∧ a < ns.length + 2 ∧ ns.length ≤ 512 + 2 ^ 32 ∧ vs = [.func ef [] [], .ptr nw 0 0, .ptr p 0 0, vI a, .list tg 2 [.agg [.list .shared k2 (g.nodes.map encNd), .bool g.one]], vI 1, vI (1 - i)] ∧
    Sep m (tab p t mm ns ((nw, .row 0 [.list .full 0 [], .bool false]) :: (b2, .row 0 [.list .shared k1 (f.nodes.map encNd), .bool f.one]) :: fr)) ∧
    (i = 1 → ns.length ≤ 256 ∧ ∀ ρ, sem ns a ρ = f.sem ρ) ∧ (i = 0 → ∀ ρ, sem ns a ρ = op (f.sem ρ) (g.sem ρ)) ∧ i ≤ 1) ?_ (i := 1) (by omega) ?_
  · rintro i vs m L ⟨ns, a, i1, i2, i3, rfl, h, i5, i6, i7⟩ hL
    by_cases hi : i = 0
    · subst hi
      have i6 := i6 rfl
      refine .lss ?_
      refine .condff ?_
      refine .blk ?_
      refine Tells.call rfl (call36 i1 i2 hK (by omega) h) ?_
      rintro _ m3 ⟨q, ⟨k3, rfl, hk3⟩, h, q2, q3⟩
      refine .storeA ‹_› (.s (.s (.s .z))) (by rfl) (by rfl) ?_
      intro m h
      refine .loadA ‹_› (.s (.s (.s .z))) (by rfl) ?_
      refine .ret1 (by rfl) ?_
      intro m hobj
      refine ⟨q, ⟨k3, rfl, hk3⟩, ?_, q2, q3.congr fun ρ => i6 ρ⟩
      exact (h.objs hobj).tail.tail.tail.tail.tail
    · have hi : i = 1 := by omega
      subst hi
      obtain ⟨i8, i9⟩ := i5 rfl
      refine .lss ?_
      refine .condtt ?_
      refine .indexL (j := 0) (by rfl) (by rfl) ?_
      refine .loadCA (by rfl) ?_
      refine .new ‹_› ?_
      intro nw m h
      refine .storeA ‹_› .z (by rfl) (by rfl) ?_
      intro m h
      refine .loadA ‹_› .z (by rfl) ?_
      rename_i _ _ b3 _ _
      refine Tells.call rfl (call28 (fr := _) ⟨k2, rfl, hk2⟩ hg i1 (by omega) (h.mvs [0, 3, 3, 3])) ?_
      rintro _ m3 ⟨ns2, r2, rfl, h, d2⟩
      have l2 := d2.cnt
      have l2' := pre_len d2.pre
      skip
      refine Tells.call rfl (call27 he hen d2.tb (by omega) d2.val (by have := @tp1 ns2 a; have := @tp1 ns2 r2; have := hcap (min (top ns2 a) (top ns2 r2)); omega) h) ?_
      rintro _ m4 ⟨ns3, r3, rfl, h, d3⟩
      have l3 := d3.cnt
      have := hcap (min (top ns2 a) (top ns2 r2))
      refine .add (by rfl) (by omega) ?_
      refine hL 0 _ _ (by omega) ⟨ns3, r3, d3.tb, d3.val, by omega, rfl, (h.mvs [2, 2, 2, 3]).tail, fun h => by omega, fun _ ρ => ?_, by omega⟩
      rw [d3.sem, d2.sem, sem_pre d2.pre i2, i9]
  · exact ⟨ns1, r1, d1.tb, d1.val, by omega, rfl, h, fun _ => ⟨by omega, d1.sem⟩, fun h => by omega, by omega⟩

theorem call16 {K : Nat} (hK : K ≤ 32) {m : Mem} {fr : Heap} {v w : AV} {f g : BF} (hv : IsFn v f) (hw : IsFn w g) (hf : Gd K f) (hg : Gd K g) (hs : Sep m fr) :
    Tells (Am.Call T 16 [v, w] m) (Res K fr fun ρ => f.sem ρ && g.sem ρ) := by
  obtain ⟨k1, rfl, hk1⟩ := hv
  obtain ⟨k2, rfl, hk2⟩ := hw
  refine Tells.fn 0 rfl F16_ok rfl ?_
  show Tells (S16 (Am.Call T) 0 m (.agg [.list .shared k1 (f.nodes.map encNd), .bool f.one]) (.agg [.list .shared k2 (g.nodes.map encNd), .bool g.one])) _
  have h : Sep ⟨m.objs, none⟩ fr := hs.objs rfl
  unfold S16 G16
  refine .boxA ‹_› ?_
  intro nw m h
  refine .boxA ‹_› ?_
  intro nw m h
  refine .new ‹_› ?_
  intro nw m h
  refine .loadA ‹_› (.s (.s .z)) (by rfl) ?_
  refine .loadA ‹_› (.s .z) (by rfl) ?_
  refine .bsA (by rfl) (by rfl) (by rfl) (by decide) (by decide) ?_
  refine Tells.call rfl (call37 andOk and_fn hK ⟨k1, rfl, hk1⟩ ⟨k2, rfl, hk2⟩ hf hg h) ?_
  rintro _ m3 ⟨q, ⟨k3, rfl, hk3⟩, h, q2, q3⟩
  refine .storeA ‹_› .z (by rfl) (by rfl) ?_
  intro m h
  refine .loadA ‹_› .z (by rfl) ?_
  refine .ret1 (by rfl) ?_
  intro m hobj
  exact ⟨q, ⟨k3, rfl, hk3⟩, (h.objs hobj).tail.tail.tail, q2, q3⟩

theorem call17 {K : Nat} (hK : K ≤ 32) {m : Mem} {fr : Heap} {v w : AV} {f g : BF} (hv : IsFn v f) (hw : IsFn w g) (hf : Gd K f) (hg : Gd K g) (hs : Sep m fr) :
    Tells (Am.Call T 17 [v, w] m) (Res K fr fun ρ => f.sem ρ || g.sem ρ) := by
  obtain ⟨k1, rfl, hk1⟩ := hv
  obtain ⟨k2, rfl, hk2⟩ := hw
  refine Tells.fn 0 rfl F17_ok rfl ?_
  show Tells (S17 (Am.Call T) 0 m (.agg [.list .shared k1 (f.nodes.map encNd), .bool f.one]) (.agg [.list .shared k2 (g.nodes.map encNd), .bool g.one])) _
  have h : Sep ⟨m.objs, none⟩ fr := hs.objs rfl
  unfold S17 G17
  refine .boxA ‹_› ?_
  intro nw m h
  refine .boxA ‹_› ?_
  intro nw m h
  refine .new ‹_› ?_
  intro nw m h
  refine .loadA ‹_› (.s (.s .z)) (by rfl) ?_
  refine .loadA ‹_› (.s .z) (by rfl) ?_
  refine .bsA (by rfl) (by rfl) (by rfl) (by decide) (by decide) ?_
  refine Tells.call rfl (call37 orOk or_fn hK ⟨k1, rfl, hk1⟩ ⟨k2, rfl, hk2⟩ hf hg h) ?_
  rintro _ m3 ⟨q, ⟨k3, rfl, hk3⟩, h, q2, q3⟩
  refine .storeA ‹_› .z (by rfl) (by rfl) ?_
  intro m h
  refine .loadA ‹_› .z (by rfl) ?_
  refine .ret1 (by rfl) ?_
  intro m hobj
  exact ⟨q, ⟨k3, rfl, hk3⟩, (h.objs hobj).tail.tail.tail, q2, q3⟩

/-- The function of a number: a variable, or true. -/
def varB (z : Int) : BF := if z < 0 then ⟨[], true⟩ else ⟨[⟨z.toNat, 0, 1⟩], false⟩
theorem gd_varB {K : Nat} (hK : K ≤ 32) {z : Int} (hz : z < K) : Gd K (varB z) := by
  unfold varB; split
  · exact gd_const
  · exact gd_var (by omega) hK
def semZ (z : Int) (ρ : Nat → Bool) : Bool := decide (z < 0) || ρ z.toNat
theorem sem_varB {z : Int} {ρ : Nat → Bool} : (varB z).sem ρ = semZ z ρ := by
  unfold varB semZ; split
  · rename_i h; rw [sem_const, decide_eq_true h]; rfl
  · rename_i h; rw [sem_var, decide_eq_false h]; rfl

theorem call14 {m : Mem} {fr : Heap} {z : Int} (hs : Sep m fr) :
    Tells (Am.Call T 14 [.int .i64 z] m) fun x m' => IsFn x (varB z) ∧ Sep m' fr := by
  refine Tells.fn 0 rfl F14_ok rfl ?_
  show Tells (S14 (Am.Call T) 0 m (.int .i64 z)) _
  have h : Sep ⟨m.objs, none⟩ fr := hs.objs rfl
  unfold S14 G14
  unfold varB
  by_cases hz : z < 0
  · rw [if_pos hz]
    refine .new ‹_› ?_
    intro nw m h
    refine .lss ?_
    refine .condT (by first | assumption | omega) ?_
    refine Tells.call rfl (call13 h) ?_
    rintro _ m3 ⟨⟨k3, rfl, hk3⟩, h⟩
    refine .storeA ‹_› .z (by rfl) (by rfl) ?_
    intro m h
    refine .loadA ‹_› .z (by rfl) ?_
    refine .ret1 (by rfl) ?_
    intro m hobj
    exact ⟨⟨k3, rfl, hk3⟩, (h.objs hobj).tail⟩
  · rw [if_neg hz]
    refine .new ‹_› ?_
    intro nw m h
    refine .lss ?_
    refine .condF (by first | assumption | omega) ?_
    refine .build3 ?_
    refine .bsA (by rfl) (by rfl) (by rfl) (by decide) (by decide) ?_
    refine .build (cs := [.list .shared 3 [.agg [.int .i64 z, .int .i64 0, .int .i64 1]], .bool false]) (by rfl) ?_
    refine .storeA ‹_› .z (by rfl) (by rfl) ?_
    intro m h
    refine .loadA ‹_› .z (by rfl) ?_
    refine .ret1 (by rfl) ?_
    intro m hobj
    obtain ⟨n, rfl⟩ : ∃ n : Nat, z = n := ⟨z.toNat, by omega⟩
    exact ⟨⟨3, rfl, .inl rfl⟩, (h.objs hobj).tail⟩

theorem call18 {K : Nat} (hK : K ≤ 32) {m : Mem} {fr : Heap} {v : AV} {f : BF} {z : Int} (hv : IsFn v f) (hf : Gd K f) (hz : z < 1000000) (hs : Sep m fr) :
    Tells (Am.Call T 18 [v, .int .i64 z] m) (Res K fr fun ρ => if z < 0 then f.sem ρ else f.sem (upd ρ z.toNat false) || f.sem (upd ρ z.toNat true)) := by
  have hpow : 2 ^ K ≤ 2 ^ 32 := Nat.pow_le_pow_right (by omega) hK
  have hcap : ∀ t, cap K t ≤ 2 ^ 32 := fun t => Nat.le_trans cap_le hpow
  obtain ⟨k1, rfl, hk1⟩ := hv
  refine Tells.fn 0 rfl F18_ok rfl ?_
  show Tells (S18 (Am.Call T) 0 m (.agg [.list .shared k1 (f.nodes.map encNd), .bool f.one]) (.int .i64 z)) _
  have h : Sep ⟨m.objs, none⟩ fr := hs.objs rfl
  unfold S18 G18
  by_cases hz0 : z < 0
  · refine .boxA ‹_› ?_
    intro nw m h
    refine .new ‹_› ?_
    intro nw m h
    refine .lss ?_
    refine .condT (by first | assumption | omega) ?_
    refine .loadA ‹_› (.s .z) (by rfl) ?_
    refine .storeA ‹_› .z (by rfl) (by rfl) ?_
    intro m h
    refine .loadA ‹_› .z (by rfl) ?_
    refine .ret1 (by rfl) ?_
    intro m hobj
    exact ⟨f, ⟨k1, rfl, hk1⟩, (h.objs hobj).tail.tail, hf, f, hf.toCan, fun ρ => by show _ = if z < 0 then _ else _; rw [if_pos hz0], hf.toCan.cap, by rw [if_neg (by have := hf.len; omega)]⟩
  · obtain ⟨n, rfl⟩ : ∃ n : Nat, z = n := ⟨z.toNat, by omega⟩
    have hn : n < far := by simp only [far]; omega
    refine .boxA ‹_› ?_
    intro nw m h
    refine .new ‹_› ?_
    intro nw m h
    refine .lss ?_
    refine .condff ?_
    rename_i _ _ b2 _ _
    refine Tells.call rfl (call26 h) ?_
    rintro _ m1 ⟨p, t, mm, rfl, h⟩
    refine .loadA ‹_› (.s (.s (.s (.s .z)))) (by rfl) ?_
    refine Tells.call rfl (call28 ⟨k1, rfl, hk1⟩ hf ⟨.nil, fun n hn => by cases hn⟩ (by simp) h) ?_
    rintro _ m2 ⟨ns1, r1, rfl, h, d1⟩
    have l1 := d1.cnt
    simp only [List.length_nil, Nat.zero_add] at l1
    skip
    obtain ⟨ns2, r2, e2, d2⟩ := with_spec (K := K) (v := n) (is := false) hn (r1 + 1) (Nat.lt_succ_self r1) d1.tb d1.val
    have c1 := hcap (top ns1 r1)
    refine Tells.call rfl (call38 (K := K) hn (r1 + 1) e2 (Nat.lt_succ_self r1) d1.tb d1.val (by omega) h) ?_
    rintro _ m3 ⟨rfl, h⟩
    have l2 := d2.cnt
    have l2' := pre_len d2.pre
    have v1 := d1.val
    obtain ⟨ns3, r3, e3, d3⟩ := with_spec (K := K) (v := n) (is := true) hn (r1 + 1) (Nat.lt_succ_self r1) d2.tb (by omega)
    have c2 := hcap (top ns2 r1)
    skip
    refine Tells.call rfl (call38 (K := K) hn (r1 + 1) e3 (Nat.lt_succ_self r1) d2.tb (by omega) (by omega) h) ?_
    rintro _ m4 ⟨rfl, h⟩
    have l3 := d3.cnt
    have l3' := pre_len d3.pre
    have v2 := d2.val
    have c3 := hcap (min (top ns3 r2) (top ns3 r3))
    skip
    refine Tells.call rfl (call27 orOk or_fn d3.tb (by omega) d3.val (by omega) h) ?_
    rintro _ m5 ⟨ns4, r4, rfl, h, d4⟩
    have l4 := d4.cnt
    skip
    refine Tells.call rfl (call36 d4.tb d4.val hK (by omega) h) ?_
    rintro _ m6 ⟨q, ⟨k3, rfl, hk3⟩, h, q2, q3⟩
    refine .storeA ‹_› (.s (.s (.s .z))) (by rfl) (by rfl) ?_
    intro m h
    refine .loadA ‹_› (.s (.s (.s .z))) (by rfl) ?_
    refine .ret1 (by rfl) ?_
    intro m hobj
    refine ⟨q, ⟨k3, rfl, hk3⟩, (h.objs hobj).tail.tail.tail.tail.tail, q2, q3.congr fun ρ => ?_⟩
    show _ = if ((n : Int) < 0) then _ else _
    rw [if_neg hz0, d4.sem, sem_pre d3.pre v2, d2.sem, d3.sem, sem_pre d2.pre v1, d1.sem, d1.sem]
    rfl

abbrev vZ (z : Int) : AV := .int .i64 z
/-- A value is a row of numbers. -/
def IsInts (v : AV) (zs : List Int) : Prop := ∃ k, v = .list .shared k (zs.map vZ) ∧ (k = 1 ∨ zs = [])

theorem call43 {m : Mem} {fr : Heap} {v : AV} {zs : List Int} (hv : IsInts v zs) (hl : zs.length < 1152921504606846976) {z : Int} (hs : Sep m fr) :
    Tells (Am.Call T 43 [v, .int .i64 z] m) fun x m' => (∃ r : Int, x = .int .i64 r ∧ (0 ≤ r ↔ z ∈ zs)) ∧ Sep m' fr := by
  obtain ⟨k, rfl, hk⟩ := hv
  refine Tells.fn (zs.length + 1) rfl F43_ok rfl ?_
  show Tells (S43 (Am.Call T) _ m (.list .shared k (zs.map vZ)) (.int .i64 z)) _
  have h : Sep ⟨m.objs, none⟩ fr := hs.objs rfl
  unfold S43 G43
  refine .lenL ?_
  rw [List.length_map]
  refine Tells.loop (fun i vs m => ∃ j : Nat, j + i = zs.length ∧ z ∉ zs.take j ∧ Sep m fr ∧ vs = [.list .shared k (zs.map vZ), .int .i64 z, vI zs.length, vI j]) ?_ (i := zs.length) (by omega) ?_
  · rintro i vs m L ⟨j, i1, i2, h, rfl⟩ hL
    by_cases hj : j < zs.length
    · obtain ⟨y, hy⟩ : ∃ y, zs[j]? = some y := ⟨_, List.getElem?_eq_getElem hj⟩
      have hgy : (zs.map vZ)[j]? = some (.int .i64 y) := by rw [List.getElem?_map, hy]; rfl
      have hk : k = 1 := hk.resolve_right (by rintro rfl; simp at hj)
      subst hk
      by_cases he : z = y
      · refine .lss ?_
        refine .condT (by first | assumption | omega) ?_
        refine .indexL (j := j) (by rfl) hgy ?_
        refine .loadC1 (by rfl) ?_
        refine .eql ?_
        refine .condT (by first | assumption | omega) ?_
        refine .blkR ?_
        refine .ret1 (by rfl) ?_
        intro m hobj
        exact ⟨⟨j, rfl, fun _ => he ▸ List.mem_of_getElem? hy, fun _ => by omega⟩, h.objs hobj⟩
      · refine .lss ?_
        refine .condT (by first | assumption | omega) ?_
        refine .indexL (j := j) (by rfl) hgy ?_
        refine .loadC1 (by rfl) ?_
        refine .eql ?_
        refine .condF (by first | assumption | omega) ?_
        refine .add (by rfl) (by omega) ?_
        refine hL (i - 1) _ _ (by omega) ⟨j + 1, by omega, ?_, h, by simp⟩
        rw [List.take_add_one, hy]
        simp only [Option.toList_some, List.mem_append, List.mem_singleton, not_or]
        exact ⟨i2, he⟩
    · refine .lss ?_
      refine .condF (by first | assumption | omega) ?_
      refine .blk ?_
      refine .ret1 (by rfl) ?_
      intro m hobj
      refine ⟨⟨-1, rfl, fun h => by omega, fun h => absurd h ?_⟩, h.objs hobj⟩
      rwa [List.take_of_length_le (by omega)] at i2
  · exact ⟨0, by omega, by simp, h, rfl⟩

theorem call25 {m : Mem} {fr : Heap} {v : AV} {zs : List Int} (hv : IsInts v zs) (hl : zs.length < 1152921504606846976) {z : Int} (hs : Sep m fr) :
    Tells (Am.Call T 25 [v, .int .i64 z] m) fun x m' => x = .bool (decide (z ∈ zs)) ∧ Sep m' fr := by
  obtain ⟨k, rfl, hk⟩ := hv
  refine Tells.fn 0 rfl F25_ok rfl ?_
  show Tells (S25 (Am.Call T) 0 m (.list .shared k (zs.map vZ)) (.int .i64 z)) _
  have h : Sep ⟨m.objs, none⟩ fr := hs.objs rfl
  unfold S25 G25
  refine Tells.call rfl (call43 ⟨k, rfl, hk⟩ hl h) ?_
  rintro _ m1 ⟨⟨r, rfl, hr⟩, h⟩
  refine .geq ?_
  refine .ret1 (by rfl) ?_
  intro m hobj
  refine ⟨?_, h.objs hobj⟩
  simp only [hr]

theorem call22 {m : Mem} {fr : Heap} {v : AV} {f : BF} (hv : IsFn v f) (hs : Sep m fr) :
    Tells (Am.Call T 22 [v] m) fun x m' => x = vI f.nodes.length ∧ Sep m' fr := by
  obtain ⟨k, rfl, hk⟩ := hv
  refine Tells.fn 0 rfl F22_ok rfl ?_
  show Tells (S22 (Am.Call T) 0 m (.agg [.list .shared k (f.nodes.map encNd), .bool f.one])) _
  have h : Sep ⟨m.objs, none⟩ fr := hs.objs rfl
  unfold S22 G22
  refine .boxA ‹_› ?_
  intro nw m h
  refine .fieldAddr ?_
  refine .load1 ‹_› .z (by rfl) ?_
  refine .lenL ?_
  refine .ret1 (by rfl) ?_
  intro m hobj
  exact ⟨by rw [List.length_map], (h.objs hobj).tail⟩
end Go.Proofs.P16
namespace Go.Proofs.P16
set_option linter.all false
open Go Go.Am Go.Bdd
attribute [local irreducible] loadK storeK newK boxK tipK makeMapK buildTK buildK buildSliceK nilK binK unK condK convK eqvK pickK gK gDK vK extractK fieldK lookupK mapUpdateK appendK min2K max2K retK makeSliceK freezeK bytesK loopV blkK stayK sameK rangeK callK aFieldAddr aIndexAddr aIndexAddrA aLen aIndex aSlice

def iffS (z : Int) (zs : List Int) (ρ : Nat → Bool) : Bool := decide (z < 0) || (ρ z.toNat == zs.all fun x => semZ x ρ)

theorem semZ_self {n : Nat} {ρ : Nat → Bool} : semZ (n : Int) ρ = ρ n := by
  simp only [semZ, Int.toNat_natCast]; rw [decide_eq_false (by omega)]; rfl
theorem iff_own {n : Nat} {zs : List Int} {ρ : Nat → Bool} (h : (n : Int) ∈ zs) : ((ρ n && zs.all fun x => decide (x = n) || semZ x ρ) || !ρ n) = iffS n zs ρ := by
  simp only [iffS, Int.toNat_natCast]
  rw [decide_eq_false (show ¬ (n : Int) < 0 by omega), Bool.false_or]
  cases hr : ρ n with
  | false =>
    have : (zs.all fun x => semZ x ρ) = false := by
      rw [List.all_eq_false]
      exact ⟨_, h, by rw [semZ_self, hr]; simp⟩
    rw [this]; rfl
  | true =>
    have : (zs.all fun x => decide (x = n) || semZ x ρ) = zs.all fun x => semZ x ρ := by
      congr 1; funext x
      by_cases e : x = n
      · subst e; rw [semZ_self, hr]; simp
      · rw [decide_eq_false e]; rfl
    rw [this]; simp
theorem iff_not {n : Nat} {zs : List Int} {ρ : Nat → Bool} (h : (n : Int) ∉ zs) : ((ρ n && zs.all fun x => decide (x = n) || semZ x ρ) || (!ρ n && !zs.all fun x => decide (x = n) || semZ x ρ)) = iffS n zs ρ := by
  simp only [iffS, Int.toNat_natCast]
  rw [decide_eq_false (show ¬ (n : Int) < 0 by omega), Bool.false_or]
  have : (zs.all fun x => decide (x = n) || semZ x ρ) = zs.all fun x => semZ x ρ := by
    rw [Bool.eq_iff_iff, List.all_eq_true, List.all_eq_true]
    refine forall_congr' fun x => forall_congr' fun hx => ?_
    have hne : ¬ x = (n : Int) := fun e => h (by rw [← e]; exact hx)
    rw [decide_eq_false hne, Bool.false_or]
  rw [this]
  cases ρ n <;> cases (zs.all fun x => semZ x ρ) <;> rfl

theorem call15 {K : Nat} (hK : K ≤ 32) {m : Mem} {fr : Heap} {v : AV} {zs : List Int} {z : Int} (hv : IsInts v zs) (hl : zs.length ≤ 16) (hz : z < K) (hzs : ∀ x ∈ zs, x < K) (hs : Sep m fr) :
    Tells (Am.Call T 15 [.int .i64 z, v] m) (Res K fr (iffS z zs)) := by
  have hpow : 2 ^ K ≤ 2 ^ 32 := Nat.pow_le_pow_right (by omega) hK
  have hcap : ∀ t, cap K t ≤ 2 ^ 32 := fun t => Nat.le_trans cap_le hpow
  obtain ⟨k, rfl, hk⟩ := hv
  refine Tells.fn (zs.length + 1) rfl F15_ok rfl ?_
  show Tells (S15 (Am.Call T) _ m (.int .i64 z) (.list .shared k (zs.map vZ))) _
  have h : Sep ⟨m.objs, none⟩ fr := hs.objs rfl
  unfold S15 G15
  by_cases hz0 : z < 0
  · refine .new ‹_› ?_
    intro nw m h
    refine .lss ?_
    refine .condT (by first | assumption | omega) ?_
    refine Tells.call rfl (call13 h) ?_
    rintro _ m3 ⟨⟨k3, rfl, hk3⟩, h⟩
    refine .storeA ‹_› .z (by rfl) (by rfl) ?_
    intro m h
    refine .loadA ‹_› .z (by rfl) ?_
    refine .ret1 (by rfl) ?_
    intro m hobj
    exact ⟨⟨[], true⟩, ⟨k3, rfl, hk3⟩, (h.objs hobj).tail, gd_const, ⟨[], true⟩, can_const, fun ρ => by rw [sem_const]; simp [iffS, hz0], Nat.zero_le _, by rw [if_neg (by simp)]⟩
  · obtain ⟨n, rfl⟩ : ∃ n : Nat, z = n := ⟨z.toNat, by omega⟩
    refine .new ‹_› ?_
    intro nw m h
    refine .lss ?_
    refine .condff ?_
    refine Tells.call rfl (call26 h) ?_
    rintro _ m1 ⟨p, t, mm, rfl, h⟩
    refine .lenL ?_
    rw [List.length_map]
    refine Tells.loop (fun i vs m => ∃ (j : Nat) (ns : List Nd) (a : Nat), j + i = zs.length ∧ Tb K ns ∧ a < ns.length + 2 ∧ ns.length ≤ j * 8589934592 ∧ (∀ ρ, sem ns a ρ = (zs.take j).all fun x => decide (x = n) || semZ x ρ) ∧
      Sep m (tab p t mm ns ((nw, .row 0 [.list .full 0 [], .bool false]) :: fr)) ∧
      vs = [.int .i64 n, .list .shared k (zs.map vZ), .ptr nw 0 0, .ptr p 0 0, vI a, .list .shared k (zs.map vZ), vI zs.length, vI j]) ?_ (i := zs.length) (by omega) ?_
    · rintro i vs m L ⟨j, ns, a, i1, i2, i3, i4, i5, h, rfl⟩ hL
      by_cases hj : j < zs.length
      · obtain ⟨y, hy⟩ : ∃ y, zs[j]? = some y := ⟨_, List.getElem?_eq_getElem hj⟩
        have hgy : (zs.map vZ)[j]? = some (.int .i64 y) := by rw [List.getElem?_map, hy]; rfl
        have hyK : y < K := hzs y (List.mem_of_getElem? hy)
        have hk : k = 1 := hk.resolve_right (by rintro rfl; simp at hj)
        subst hk
        by_cases he : y = n
        · refine .lss ?_
          refine .condT (by first | assumption | omega) ?_
          refine .indexL (j := j) (by rfl) hgy ?_
          refine .loadC1 (by rfl) ?_
          refine .neq ?_
          refine .condF (by first | assumption | omega) ?_
          refine .add (by rfl) (by omega) ?_
          refine hL (i - 1) _ _ (by omega) ⟨j + 1, ns, a, by omega, i2, i3, Nat.le_trans i4 (Nat.mul_le_mul_right _ (Nat.le_succ j)), fun ρ => ?_, h, rfl⟩
          rw [List.take_add_one, hy, i5]
          simp [he]
        · refine .lss ?_
          refine .condT (by first | assumption | omega) ?_
          refine .indexL (j := j) (by rfl) hgy ?_
          refine .loadC1 (by rfl) ?_
          refine .neq ?_
          refine .condT (by first | assumption | omega) ?_
          refine Tells.call rfl (call14 h) ?_
          rintro _ m3 ⟨⟨k3, rfl, hk3⟩, h⟩
          skip
          refine Tells.call rfl (call28 ⟨k3, rfl, hk3⟩ (gd_varB hK hyK) i2 (by omega) h) ?_
          rintro _ m4 ⟨ns1, r1, rfl, h, d1⟩
          have l1 := d1.cnt
          have l1' := pre_len d1.pre
          have c1 := hcap (min (top ns1 a) (top ns1 r1))
          skip
          refine Tells.call rfl (call27 andOk and_fn d1.tb (by omega) d1.val (by omega) h) ?_
          rintro _ m5 ⟨ns2, r2, rfl, h, d2⟩
          have l2 := d2.cnt
          refine .add (by rfl) (by omega) ?_
          refine hL (i - 1) _ _ (by omega) ⟨j + 1, ns2, r2, by omega, d2.tb, d2.val, by rw [Nat.succ_mul]; omega, fun ρ => ?_, h, rfl⟩
          rw [List.take_add_one, hy, d2.sem, d1.sem, sem_pre d1.pre i3, i5, sem_varB]
          simp [he]
      · have hj : j = zs.length := by omega
        subst hj
        rw [List.take_length] at i5
        refine .lss ?_
        refine .condF (by first | assumption | omega) ?_
        refine .blk ?_
        refine Tells.call rfl (call14 h) ?_
        rintro _ m3 ⟨⟨k3, rfl, hk3⟩, h⟩
        skip
        refine Tells.call rfl (call28 ⟨k3, rfl, hk3⟩ (gd_varB hK hz) i2 (by omega) h) ?_
        rintro _ m4 ⟨ns1, r1, rfl, h, d1⟩
        have l1 := d1.cnt
        have l1' := pre_len d1.pre
        have v1 := d1.val
        have c1 := hcap (min (top ns1 r1) (top ns1 a))
        skip
        refine Tells.call rfl (call25 ⟨k, rfl, hk⟩ (by omega) h) ?_
        rintro _ m5 ⟨rfl, h⟩
        skip
        refine Tells.call rfl (call27 andOk and_fn d1.tb v1 (by omega) (by omega) h) ?_
        rintro _ m6 ⟨ns2, r2, rfl, h, d2⟩
        have l2 := d2.cnt
        have l2' := pre_len d2.pre
        have v2 := d2.val
        refine .build3 ?_
        have hn : n < K := by omega
        have tf : ∀ b, b < 2 → top ns2 b = far := fun b hb => top_const hb
        refine Tells.call rfl (call35 (n := ⟨n, 1, 0⟩) h (by omega)) ?_
        rintro _ m7 ⟨rfl, h⟩
        have d3 := mkN_spec d2.tb (n := ⟨n, 1, 0⟩) hn (by show 1 < _; omega) (by show 0 < _; omega) (by show n < top ns2 1; rw [tf 1 (by omega)]; simp only [far]; omega) (by show n < top ns2 0; rw [tf 0 (by omega)]; simp only [far]; omega)
        generalize (mkN ns2 ⟨n, 1, 0⟩).1 = r3 at *
        generalize (mkN ns2 ⟨n, 1, 0⟩).2 = ns3 at *
        have l3 := d3.cnt
        have l3' := pre_len d3.pre
        have v3 := d3.val
        have s3 : ∀ ρ, sem ns3 r3 ρ = !ρ n := fun ρ => by
          rw [d3.sem]; simp only [sem_one, sem_zero]; cases ρ n <;> rfl
        have s1 : ∀ ρ, sem ns3 r2 ρ = (ρ n && zs.all fun x => decide (x = n) || semZ x ρ) := fun ρ => by
          rw [sem_pre d3.pre v2, d2.sem, d1.sem, sem_pre d1.pre i3, i5, sem_varB]
          simp only [semZ, Int.toNat_natCast]
          rw [decide_eq_false (by omega)]; rfl
        by_cases hm : (n : Int) ∈ zs
        · have c3 := hcap (min (top ns3 r2) (top ns3 r3))
          refine .condT (by first | assumption | omega) ?_
          refine Tells.call rfl (call27 orOk or_fn d3.tb (by omega) v3 (by omega) h) ?_
          rintro _ m8 ⟨ns4, r4, rfl, h, d4⟩
          have l4 := d4.cnt
          skip
          refine Tells.call rfl (call36 d4.tb d4.val hK (by omega) h) ?_
          rintro _ m9 ⟨q, ⟨k4, rfl, hk4⟩, h, q2, q3⟩
          refine .storeA ‹_› (.s (.s (.s .z))) (by rfl) (by rfl) ?_
          intro m h
          refine .loadA ‹_› (.s (.s (.s .z))) (by rfl) ?_
          refine .ret1 (by rfl) ?_
          intro m hobj
          refine ⟨q, ⟨k4, rfl, hk4⟩, (h.objs hobj).tail.tail.tail.tail, q2, q3.congr fun ρ => ?_⟩
          rw [d4.sem]; show (sem ns3 r2 ρ || sem ns3 r3 ρ) = _
          rw [s1, s3, iff_own hm]
        · obtain ⟨ns4, r4, e4, d4⟩ := opp_spec (K := K) (a + 1) (Nat.lt_succ_self a) d3.tb (by omega)
          have c4 := hcap (top ns3 a)
          have l4 := d4.cnt
          have l4' := pre_len d4.pre
          have v4 := d4.val
          have c5 := hcap (min (top ns4 r3) (top ns4 r4))
          refine .condF (by first | assumption | omega) ?_
          refine Tells.call rfl (call30 hK (a + 1) e4 (Nat.lt_succ_self a) d3.tb (by omega) (by omega) h) ?_
          rintro _ m8 ⟨rfl, h⟩
          skip
          refine Tells.call rfl (call27 andOk and_fn d4.tb (by omega) v4 (by omega) h) ?_
          rintro _ m9 ⟨ns5, r5, rfl, h, d5⟩
          have l5 := d5.cnt
          have l5' := pre_len d5.pre
          have v5 := d5.val
          have c6 := hcap (min (top ns5 r2) (top ns5 r5))
          skip
          refine Tells.call rfl (call27 orOk or_fn d5.tb (by omega) v5 (by omega) h) ?_
          rintro _ m10 ⟨ns6, r6, rfl, h, d6⟩
          have l6 := d6.cnt
          skip
          refine Tells.call rfl (call36 d6.tb d6.val hK (by omega) h) ?_
          rintro _ m11 ⟨q, ⟨k4, rfl, hk4⟩, h, q2, q3⟩
          refine .storeA ‹_› (.s (.s (.s .z))) (by rfl) (by rfl) ?_
          intro m h
          refine .loadA ‹_› (.s (.s (.s .z))) (by rfl) ?_
          refine .ret1 (by rfl) ?_
          intro m hobj
          refine ⟨q, ⟨k4, rfl, hk4⟩, (h.objs hobj).tail.tail.tail.tail, q2, q3.congr fun ρ => ?_⟩
          rw [d6.sem]; show (sem ns5 r2 ρ || sem ns5 r5 ρ) = _
          rw [sem_pre d5.pre (by omega), sem_pre d4.pre (by omega), s1, d5.sem]
          show (_ || (sem ns4 r3 ρ && sem ns4 r4 ρ)) = _
          rw [sem_pre d4.pre v3, s3, d4.sem]
          show (_ || (_ && !sem ns3 a ρ)) = _
          rw [sem_pre d3.pre (by omega), sem_pre d2.pre (by omega), sem_pre d1.pre i3, i5, iff_not hm]
    · exact ⟨0, [], 1, by omega, ⟨.nil, fun n hn => by cases hn⟩, by simp, by simp, fun ρ => by rw [sem_one]; simp, h, rfl⟩
end Go.Proofs.P16
