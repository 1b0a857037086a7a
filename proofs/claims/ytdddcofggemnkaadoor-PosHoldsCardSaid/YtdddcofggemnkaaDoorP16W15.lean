/- The walk through renaming. -/
import Derived.Test.YtdddcofggemnkaaDoorP16W14
namespace Go.Proofs.P16
set_option linter.all false
open Go Go.Am Go.Bdd
attribute [local irreducible] loadK storeK newK boxK tipK makeMapK buildTK buildK buildSliceK nilK binK unK condK convK eqvK pickK gK gDK vK extractK fieldK lookupK mapUpdateK appendK min2K max2K retK makeSliceK freezeK bytesK loopV blkK stayK sameK rangeK callK aFieldAddr aIndexAddr aIndexAddrA aLen aIndex aSlice

theorem lenV {P : AV → Mem → Prop} {m : Mem} {x : AV} {H : Heap} {zs : List Int} (hx : RowV x H zs) {k : KV} (hk : Tells (k (vI zs.length) m) P) : Tells (Am.vK (aLen m 1 x) m k) P := by
  rcases hx with ⟨g, k', rfl, rfl, rfl⟩ | ⟨id, ver, cs, rfl, rfl, _⟩
  · exact Tells.lenL hk
  · exact Tells.lenR hk
theorem idxV {P : AV → Mem → Prop} {m : Mem} {x : AV} {H : Heap} {zs : List Int} (hx : RowV x H zs) {j : Nat} {z : Int} (hz : zs[j]? = some z) {k : KV}
    (hk : ∀ id ver, (∀ (M : Mem) (l : Heap), Sep M (H ++ l) → ∀ (k : KV) (P : AV → Mem → Prop), Tells (k (vZ z) M) P → Tells (loadK none (.ptr id ver j) M k) P) → Tells (k (.ptr id ver j) m) P) : Tells (Am.vK (aIndexAddr m 1 x (vI j)) m k) P := by
  rcases hx with ⟨g, k', rfl, rfl, rfl⟩ | ⟨id, ver, cs, rfl, rfl, hc⟩
  · simp at hz
  · refine Tells.indexR1 (j := j) rfl (List.getElem?_eq_some_iff.1 hz).1 ?_
    rw [Nat.zero_add]
    exact hk id ver fun M l h k P hk => Tells.load1 h .z (hc j z hz) hk

theorem eqv_z (a b : Int) : AV.eqv ⟨[.i], false⟩ (vZ a) (vZ b) = some (decide (a = b)) := by
  simp only [AV.eqv, AV.isAgg, and_self, if_true, AV.cells, AV.eqCells, AV.eq1, Option.some.injEq]
  rw [Bool.eq_iff_iff]
  simp only [Bool.and_eq_true, beq_iff_eq, decide_eq_true_eq, and_true]

theorem orIf (a b c : Bool) : ((a && b) || (!a && c)) = if a = true then b else c := by cases a <;> simp

def smEs (es : List (Int × Bool)) : List (AV × AV) := es.map fun x => (vZ x.1, .bool x.2)

/-- What is known of a renaming when some variables have been looked at. -/
structure RenAt (L : List Int) (zs : List Int) (j : Nat) (es : List (Int × Bool)) : Prop where
  ok : ∀ (i : Nat) (v : Int), i < j → zs[i]? = some v → ∃ y : Int, L[v.toNat]? = some y ∧ 0 ≤ y
  inj : ∀ (i i' : Nat) (v w : Int), i < j → i' < j → zs[i]? = some v → zs[i']? = some w → i ≠ i' → L[v.toNat]? ≠ L[w.toNat]?
  yes : ∀ y : Int, (∃ (i : Nat) (v : Int), i < j ∧ zs[i]? = some v ∧ L[v.toNat]? = some y) → lookN y es = some true
  no : ∀ y : Int, ¬ (∃ (i : Nat) (v : Int), i < j ∧ zs[i]? = some v ∧ L[v.toNat]? = some y) → lookN y es = none

theorem RenAt.next {L zs : List Int} {j : Nat} {es : List (Int × Bool)} (h : RenAt L zs j es) {v y : Int} (hv : zs[j]? = some v) (hy : L[v.toNat]? = some y) (h0 : 0 ≤ y) (hn : lookN y es = none) : RenAt L zs (j + 1) (aputN y true es) := by
  have hno : ¬ ∃ (i : Nat) (v : Int), i < j ∧ zs[i]? = some v ∧ L[v.toNat]? = some y := fun e => by rw [h.yes y e] at hn; cases hn
  refine ⟨fun i w hi hw => ?_, fun i i' w u hi hi' hw hu hne => ?_, fun z hz => ?_, fun z hz => ?_⟩
  · by_cases e : i = j
    · subst e; rw [hv] at hw; cases hw; exact ⟨y, hy, h0⟩
    · exact h.ok i w (by omega) hw
  · by_cases e1 : i = j
    · subst e1; rw [hv] at hw; cases hw
      exact fun e => hno ⟨i', u, by omega, hu, by rw [← e, hy]⟩
    · by_cases e2 : i' = j
      · subst e2; rw [hv] at hu; cases hu
        exact fun e => hno ⟨i, w, by omega, hw, by rw [e, hy]⟩
      · exact h.inj i i' w u (by omega) (by omega) hw hu hne
  · rw [lookN_aputN]
    split
    · rfl
    · rename_i hzy
      obtain ⟨i, w, i1, i2, i3⟩ := hz
      refine h.yes z ⟨i, w, ?_, i2, i3⟩
      have : i ≠ j := fun e => by
        subst e; rw [hv] at i2; cases i2; rw [hy] at i3; exact hzy (Option.some.inj i3).symm
      omega
  · rw [lookN_aputN]
    rw [if_neg]
    · exact h.no z fun ⟨i, w, i1, i2, i3⟩ => hz ⟨i, w, by omega, i2, i3⟩
    · rintro rfl
      exact hz ⟨j, v, by omega, hv, hy⟩

theorem VarsOf.at {f : BF} {zs : List Int} (h : VarsOf f zs) {i : Nat} {v : Int} (hv : zs[i]? = some v) : 0 ≤ v ∧ Hg f v.toNat := (h.mem v).1 (List.mem_of_getElem? hv)
theorem VarsOf.ne {f : BF} {zs : List Int} (h : VarsOf f zs) {i i' : Nat} {v w : Int} (hv : zs[i]? = some v) (hw : zs[i']? = some w) (hne : i < i') : v < w := by
  obtain ⟨a1, a2⟩ := List.getElem?_eq_some_iff.1 hv
  obtain ⟨b1, b2⟩ := List.getElem?_eq_some_iff.1 hw
  have := List.pairwise_iff_getElem.1 h.up i i' a1 b1 hne
  rw [a2, b2] at this
  exact this

theorem RenAt.done {L zs : List Int} {f : BF} (hz : VarsOf f zs) {es : List (Int × Bool)} (h : RenAt L zs zs.length es) : RenOk L f := by
  have key : ∀ v, Hg f v → ∃ i, i < zs.length ∧ zs[i]? = some (v : Int) := fun v hv => by
    obtain ⟨i, hi⟩ := List.getElem?_of_mem ((hz.mem (v : Int)).2 ⟨by omega, by simpa using hv⟩)
    exact ⟨i, (List.getElem?_eq_some_iff.1 hi).1, hi⟩
  constructor
  · intro v hv
    obtain ⟨i, h1, h2⟩ := key v hv
    exact h.ok i v h1 h2
  · intro v w hv hw hne
    obtain ⟨i, h1, h2⟩ := key v hv
    obtain ⟨i', h3, h4⟩ := key w hw
    refine h.inj i i' v w h1 h3 h2 h4 fun e => ?_
    subst e
    rw [h2] at h4
    have := Option.some.inj h4
    omega

theorem RenAt.bad {L zs : List Int} {f : BF} (hz : VarsOf f zs) {j : Nat} {es : List (Int × Bool)} (h : RenAt L zs j es) {v y : Int} (hv : zs[j]? = some v) (hy : L[v.toNat]? = some y) (hn : lookN y es ≠ none) : ¬ RenOk L f := by
  intro hok
  refine hn (h.no y fun ⟨i, w, h1, h2, h3⟩ => ?_)
  have hlt := hz.ne h2 hv h1
  obtain ⟨p1, p2⟩ := hz.at hv
  obtain ⟨q1, q2⟩ := hz.at h2
  exact hok.2 _ _ q2 p2 (by omega) (by rw [h3, hy])

set_option maxHeartbeats 4000000 in
theorem call19 {m : Mem} {fr : Heap} {v w : AV} {f : BF} {L : List Int} (hv : IsFn v f) (hf : Gd 6 f) (hw : IsInts w L) (hL6 : ∀ y ∈ L, y < 6) (hll : L.length ≤ 16) (hs : Sep m fr) :
    Tells (Am.Call T 19 [v, w] m) (Res 6 fr (renS L f)) := by
  obtain ⟨k, rfl, hk⟩ := hv
  obtain ⟨k2, rfl, hk2⟩ := hw
  have hnl := hf.len
  refine Tells.fn 300 rfl F19_ok rfl ?_
  show Tells (S19 (Am.Call T) _ m (.agg [.list .shared k (f.nodes.map encNd), .bool f.one]) (.list .shared k2 (L.map vZ))) _
  have h : Sep ⟨m.objs, none⟩ fr := hs.objs rfl
  have hlen : (f.nodes.map encNd).length = f.nodes.length := List.length_map _
  have hlenL : (L.map vZ).length = L.length := List.length_map _
  unfold S19 G19
  refine .boxA ‹_› ?_
  intro nw m h
  refine .new ‹_› ?_
  intro nw m h
  refine .makeMap ‹_› ?_
  intro nw m h
  refine .loadA ‹_› (.s (.s .z)) (by rfl) ?_
  rename_i fb _ _ res _ _
  refine Tells.call rfl (call6 ⟨k, rfl, hk⟩ hf.len h) ?_
  rintro xv m1 ⟨H, zs, hx, hz, h⟩
  have h := Sep.hfront (l1 := H) (H := [_, _, _]) h
  have hzl := hz.len
  refine lenV hx ?_
  have hbad : ∀ {M : Mem} {vv : AV}, IsFn vv ⟨[], true⟩ → ¬ RenOk L f → Sep M fr → Res 6 fr (renS L f) vv M := fun h1 h2 h3 =>
    ⟨⟨[], true⟩, h1, h3, gd_const, ⟨[], true⟩, can_const, fun ρ => by rw [sem_const, renS_not h2], Nat.zero_le _, by rw [if_neg (by simp)]⟩
  refine Tells.loop (fun i vs m => ∃ (j : Nat) (es : List (Int × Bool)), j + i = zs.length ∧ RenAt L zs j es ∧ vs = [.list .shared k2 (L.map vZ), .ptr fb 0 0, .ptr res 0 0, .map nw, xv, vI zs.length, vI j] ∧
    Sep m ((nw, .map (smEs es)) :: (res, .row 0 [.list .full 0 [], .bool false]) :: (fb, .row 0 [.list .shared k (f.nodes.map encNd), .bool f.one]) :: (H ++ fr))) ?_ (i := zs.length) (by omega) ?_
  · rintro i vs m L2 ⟨j, es, i1, i2, rfl, h⟩ hL
    by_cases hj : j < zs.length
    · obtain ⟨z, hzj⟩ : ∃ z, zs[j]? = some z := ⟨_, List.getElem?_eq_getElem hj⟩
      obtain ⟨hz0, hzg⟩ := hz.at hzj
      have hend : ∀ {M : Mem} {o : AObj}, Sep M ((nw, .map (smEs es)) :: (res, o) :: (fb, .row 0 [.list .shared k (f.nodes.map encNd), .bool f.one]) :: (H ++ fr)) → Sep M fr := fun h => h.tail.tail.tail.right
      by_cases hzl : z < L.length
      · obtain ⟨y, hy⟩ : ∃ y, L[z.toNat]? = some y := ⟨_, List.getElem?_eq_getElem (by omega)⟩
        have hgy : (L.map vZ)[z.toNat]? = some (.int .i64 y) := by rw [List.getElem?_map, hy]; rfl
        have hk2 : k2 = 1 := hk2.resolve_right (by intro e; rw [e] at hzl; simp at hzl; omega)
        subst hk2
        by_cases hy0 : y < 0
        · refine .lss ?_
          refine .condT (by first | assumption | omega) ?_
          refine idxV hx hzj ?_; intro id ver hld
          refine hld _ _ (Sep.hfront (l1 := [_, _, _]) h) _ _ ?_
          refine .lenL ?_
          refine .geq ?_
          refine .gF (by rfl) (by first | assumption | omega) ?_
          refine .gF (by rfl) (by first | assumption | omega) ?_
          refine .gF (by rfl) (by first | assumption | omega) ?_
          refine .indexL (j := z.toNat) (by omega) hgy ?_
          refine .gF (by rfl) (by first | assumption | omega) ?_
          refine .loadC1 (by rfl) ?_
          refine .gF (by rfl) (by first | assumption | omega) ?_
          refine .lss ?_
          refine .pickF (by first | assumption | omega) ?_
          refine .gTF (by rfl) (by first | assumption | omega) ?_
          refine .gTF (by rfl) (by first | assumption | omega) ?_
          refine .gTF (by rfl) (by first | assumption | omega) ?_
          refine .gTF (by rfl) (by first | assumption | omega) ?_
          refine .gTF (by rfl) (by first | assumption | omega) ?_
          refine .gTF (by rfl) (by first | assumption | omega) ?_
          refine .pickT (by first | assumption | omega) ?_
          refine .condtt ?_
          refine Tells.call rfl (call13 h) ?_
          rintro _ _ ⟨⟨k3, rfl, hk3⟩, h⟩
          refine .storeA ‹_› (.s .z) (by rfl) (by rfl) ?_
          intro m h
          refine .blkR ?_
          refine .loadA ‹_› (.s .z) (by rfl) ?_
          refine .ret1 (by rfl) ?_
          intro m hobj
          refine hbad ⟨k3, rfl, .inr rfl⟩ (fun hok => ?_) (hend (h.objs hobj))
          obtain ⟨y', h1, h2⟩ := hok.1 _ hzg
          rw [hy] at h1; cases h1
          omega
        · cases hlk : lookN y es with
          | some b =>
            have hbt : b = true := by
              by_cases he : ∃ (i : Nat) (v : Int), i < j ∧ zs[i]? = some v ∧ L[v.toNat]? = some y
              · have := i2.yes y he; rw [hlk] at this; exact Option.some.inj this
              · have := i2.no y he; rw [hlk] at this; cases this
            subst hbt
            have hfk : findKey ⟨[.i], false⟩ (vZ y) (smEs es) = some (some (.bool true)) := by rw [smEs, findKey_enc eqv_z, hlk]; rfl
            refine .lss ?_
            refine .condT (by first | assumption | omega) ?_
            refine idxV hx hzj ?_; intro id ver hld
            refine hld _ _ (Sep.hfront (l1 := [_, _, _]) h) _ _ ?_
            refine .lenL ?_
            refine .geq ?_
            refine .gF (by rfl) (by first | assumption | omega) ?_
            refine .gF (by rfl) (by first | assumption | omega) ?_
            refine .gF (by rfl) (by first | assumption | omega) ?_
            refine .indexL (j := z.toNat) (by omega) hgy ?_
            refine .gF (by rfl) (by first | assumption | omega) ?_
            refine .loadC1 (by rfl) ?_
            refine .gF (by rfl) (by first | assumption | omega) ?_
            refine .lss ?_
            refine .pickF (by first | assumption | omega) ?_
            refine .gF (by rfl) (by first | assumption | omega) ?_
            refine .gF (by rfl) (by first | assumption | omega) ?_
            refine .gF (by rfl) (by first | assumption | omega) ?_
            refine .gF (by rfl) (by first | assumption | omega) ?_
            refine .indexL (j := z.toNat) (by omega) hgy ?_
            refine .gF (by rfl) (by first | assumption | omega) ?_
            refine .loadC1 (by rfl) ?_
            refine .gF (by rfl) (by first | assumption | omega) ?_
            refine .lookup1 ‹_› .z (by rfl) hfk ?_
            refine .pickF (by first | assumption | omega) ?_
            refine .condtt ?_
            refine Tells.call rfl (call13 h) ?_
            rintro _ _ ⟨⟨k3, rfl, hk3⟩, h⟩
            refine .storeA ‹_› (.s .z) (by rfl) (by rfl) ?_
            intro m h
            refine .blkR ?_
            refine .loadA ‹_› (.s .z) (by rfl) ?_
            refine .ret1 (by rfl) ?_
            intro m hobj
            exact hbad ⟨k3, rfl, .inr rfl⟩ (i2.bad hz hzj hy (by rw [hlk]; simp)) (hend (h.objs hobj))
          | none =>
            have hfk : findKey ⟨[.i], false⟩ (vZ y) (smEs es) = some none := by rw [smEs, findKey_enc eqv_z, hlk]; rfl
            have hpk : putKey ⟨[.i], false⟩ (vZ y) (.bool true) (smEs es) = some (smEs (aputN y true es)) := by rw [smEs, putKey_enc (g := AV.bool) eqv_z]; rfl
            refine .lss ?_
            refine .condT (by first | assumption | omega) ?_
            refine idxV hx hzj ?_; intro id ver hld
            refine hld _ _ (Sep.hfront (l1 := [_, _, _]) h) _ _ ?_
            refine .lenL ?_
            refine .geq ?_
            refine .gF (by rfl) (by first | assumption | omega) ?_
            refine .gF (by rfl) (by first | assumption | omega) ?_
            refine .gF (by rfl) (by first | assumption | omega) ?_
            refine .indexL (j := z.toNat) (by omega) hgy ?_
            refine .gF (by rfl) (by first | assumption | omega) ?_
            refine .loadC1 (by rfl) ?_
            refine .gF (by rfl) (by first | assumption | omega) ?_
            refine .lss ?_
            refine .pickF (by first | assumption | omega) ?_
            refine .gF (by rfl) (by first | assumption | omega) ?_
            refine .gF (by rfl) (by first | assumption | omega) ?_
            refine .gF (by rfl) (by first | assumption | omega) ?_
            refine .gF (by rfl) (by first | assumption | omega) ?_
            refine .indexL (j := z.toNat) (by omega) hgy ?_
            refine .gF (by rfl) (by first | assumption | omega) ?_
            refine .loadC1 (by rfl) ?_
            refine .gF (by rfl) (by first | assumption | omega) ?_
            refine .lookup1n ‹_› .z (by rfl) hfk ?_
            refine .pickF (by first | assumption | omega) ?_
            refine .condff ?_
            refine .indexL (j := z.toNat) (by omega) hgy ?_
            refine .loadC1 (by rfl) ?_
            refine .mapUpdate ‹_› .z (by rfl) hpk ?_
            intro m h
            refine .add (by rfl) (by omega) ?_
            exact hL (i - 1) _ _ (by omega) ⟨j + 1, _, by omega, i2.next hzj hy (by omega) hlk, rfl, h⟩
      · refine .lss ?_
        refine .condT (by first | assumption | omega) ?_
        refine idxV hx hzj ?_; intro id ver hld
        refine hld _ _ (Sep.hfront (l1 := [_, _, _]) h) _ _ ?_
        refine .lenL ?_
        refine .geq ?_
        refine .gTF (by rfl) (by first | assumption | omega) ?_
        refine .gTF (by rfl) (by first | assumption | omega) ?_
        refine .gTF (by rfl) (by first | assumption | omega) ?_
        refine .gTF (by rfl) (by first | assumption | omega) ?_
        refine .gTF (by rfl) (by first | assumption | omega) ?_
        refine .pickT (by first | assumption | omega) ?_
        refine .gtf ?_
        refine .gtf ?_
        refine .gtf ?_
        refine .gtf ?_
        refine .gtf ?_
        refine .gtf ?_
        refine .picktt ?_
        refine .condtt ?_
        refine Tells.call rfl (call13 h) ?_
        rintro _ _ ⟨⟨k3, rfl, hk3⟩, h⟩
        refine .storeA ‹_› (.s .z) (by rfl) (by rfl) ?_
        intro m h
        refine .blkR ?_
        refine .loadA ‹_› (.s .z) (by rfl) ?_
        refine .ret1 (by rfl) ?_
        intro m hobj
        refine hbad ⟨k3, rfl, .inr rfl⟩ (fun hok => ?_) (hend (h.objs hobj))
        obtain ⟨y', h1, h2⟩ := hok.1 _ hzg
        rw [List.getElem?_eq_none (by omega)] at h1
        cases h1
    · have hjl : j = zs.length := by omega
      subst hjl
      have hok := i2.done hz
      have h := ((Sep.hfront (l1 := [_, _]) (H := H) h.tail).right)
      have hcap : ∀ t, cap 6 t ≤ 64 := fun t => cap_le
      refine .lss ?_
      refine .condF (by first | assumption | omega) ?_
      refine .blk ?_
      refine Tells.call rfl (call26 h) ?_
      rintro _ m2 ⟨p, t, mm, rfl, h⟩
      refine .bs2 ?_
      refine .fieldAddr ?_
      refine .load1 ‹_› (.s (.s (.s (.s .z)))) (by rfl) ?_
      refine .lenL ?_
      rw [hlen]
      refine Tells.loop (fun i vs m => ∃ (j : Nat) (ns : List Nd) (pl : List Nat) (g : Tag) (H' : Heap), j + i = f.nodes.length ∧ Tb 6 ns ∧ ns.length ≤ j * 2048 ∧ pl.length = j + 2 ∧
        (∀ x, x < j + 2 → ∃ y, pl[x]? = some y ∧ y < ns.length + 2 ∧ ∀ ρ, sem ns y ρ = sem (f.nodes.take j) x (fun v => ρ ((L[v]?).getD 0).toNat)) ∧ OwnT g H' (pl.map vI).length ∧
        vs = [.list .shared k2 (L.map vZ), .ptr fb 0 0, .ptr res 0 0, .ptr p 0 0, .list g 1 (pl.map vI), .list .shared k (f.nodes.map encNd), vI f.nodes.length, vI j] ∧
        Sep m (tab p t mm ns ((res, .row 0 [.list .full 0 [], .bool false]) :: (fb, .row 0 [.list .shared k (f.nodes.map encNd), .bool f.one]) :: (H' ++ fr)))) ?_ (i := f.nodes.length) (by omega) ?_
      · rintro i vs m L3 ⟨j, ns, pl, g, H', j1, j2, j3, j4, j5, j6, rfl, h⟩ hL3
        have hlm : (pl.map vI).length = pl.length := List.length_map _
        by_cases hj : j < f.nodes.length
        · have hne : f.nodes ≠ [] := fun e => by rw [e] at hj; simp at hj
          have hk : k = 3 := hk.resolve_right hne
          subst hk
          obtain ⟨fc, _⟩ := hf.facts hne
          obtain ⟨n, hn⟩ : ∃ n, f.nodes[j]? = some n := ⟨_, List.getElem?_eq_getElem hj⟩
          have hmem : n ∈ f.nodes := List.mem_of_getElem? hn
          have hfit := fc.tb.wf.get hn
          have htl : (f.nodes.take j).length = j := by rw [List.length_take]; omega
          have flo := hfit.lo
          have fhi := hfit.hi
          rw [htl] at flo fhi
          have hn6 := fc.tb.low n hmem
          obtain ⟨y, hy, hy0⟩ := hok.1 n.v ⟨n, hmem, rfl⟩
          have hy6 : y < 6 := hL6 y (List.mem_of_getElem? hy)
          have hvl : n.v < L.length := (List.getElem?_eq_some_iff.1 hy).1
          have hk2 : k2 = 1 := hk2.resolve_right (by intro e; rw [e] at hvl; simp at hvl)
          subst hk2
          obtain ⟨xl, l1, l2, l3⟩ := j5 n.lo flo
          obtain ⟨xh, h1, h2, h3⟩ := j5 n.hi fhi
          have hgn : (f.nodes.map encNd)[j]? = some (encNd n) := by rw [List.getElem?_map, hn]; rfl
          have hgy : (L.map vZ)[n.v]? = some (.int .i64 y) := by rw [List.getElem?_map, hy]; rfl
          have hgl : (pl.map vI)[n.lo]? = some (vI xl) := by rw [List.getElem?_map, l1]; rfl
          have hgh : (pl.map vI)[n.hi]? = some (vI xh) := by rw [List.getElem?_map, h1]; rfl
          refine .lss ?_
          refine .condT (by first | assumption | omega) ?_
          refine .indexL (j := j) (by rfl) hgn ?_
          refine .loadCA (by rfl) ?_
          refine .new ‹_› ?_
          intro nw m h
          refine .storeA ‹_› .z (by rfl) (by rfl) ?_
          intro m h
          refine .fieldAddr ?_
          refine .load1 ‹_› .z (by rfl) ?_
          refine .indexL (j := n.v) (by rfl) hgy ?_
          refine .loadC1 (by rfl) ?_
          refine Tells.call rfl (call14 h) ?_
          rintro _ _ ⟨⟨k3, rfl, hk3⟩, h⟩
          skip
          refine Tells.call rfl (call28 (K := 6) (ns := ns) ⟨k3, rfl, hk3⟩ (gd_varB (by omega) hy6) j2 (by omega) (h.mvs [0, 3, 3, 3])) ?_
          rintro _ _ ⟨ns1, r1, rfl, h, d1⟩
          have e1 := d1.cnt
          have e1' := pre_len d1.pre
          have w1 := d1.val
          have c1 := hcap (min (top ns1 r1) (top ns1 xh))
          refine .fieldAddr ?_
          refine .load1 ‹_› (.s (.s (.s .z))) (by rfl) ?_
          refine .indexL (j := n.hi) (by rfl) hgh ?_
          refine .loadC1 (by rfl) ?_
          refine Tells.call rfl (call27 andOk and_fn d1.tb w1 (by omega) (by omega) h) ?_
          rintro _ _ ⟨ns2, r2, rfl, h, d2⟩
          have e2 := d2.cnt
          have e2' := pre_len d2.pre
          have w2 := d2.val
          obtain ⟨ns3, r3, o3, d3⟩ := opp_spec (K := 6) (r1 + 1) (Nat.lt_succ_self r1) d2.tb (by omega)
          have c2 := hcap (top ns2 r1)
          have e3 := d3.cnt
          have e3' := pre_len d3.pre
          have w3 := d3.val
          skip
          refine Tells.call rfl (call30 (K := 6) (by omega) (r1 + 1) o3 (Nat.lt_succ_self r1) d2.tb (by omega) (by omega) h) ?_
          rintro _ _ ⟨rfl, h⟩
          have c3 := hcap (min (top ns3 r3) (top ns3 xl))
          refine .fieldAddr ?_
          refine .load1 ‹_› (.s (.s (.s .z))) (by rfl) ?_
          refine .indexL (j := n.lo) (by rfl) hgl ?_
          refine .loadC1 (by rfl) ?_
          refine Tells.call rfl (call27 andOk and_fn d3.tb w3 (by omega) (by omega) h) ?_
          rintro _ _ ⟨ns4, r4, rfl, h, d4⟩
          have e4 := d4.cnt
          have e4' := pre_len d4.pre
          have w4 := d4.val
          have c4 := hcap (min (top ns4 r2) (top ns4 r4))
          refine .stay (by first | exact stayK_nil | (repeat first | exact stayK_nil | refine stayK_cons ?_ ?_ | refine stayK_not ?_ | exact stayN_zero | refine stayN_succ (by rfl) (by first | exact Sep.load1 ‹_› (by first | exact .z | exact .s .z | exact .s (.s .z) | exact .s (.s (.s .z)) | exact .s (.s (.s (.s .z))) | exact .s (.s (.s (.s (.s .z)))) | exact .s (.s (.s (.s (.s (.s .z))))) | exact .s (.s (.s (.s (.s (.s (.s .z)))))) | exact .s (.s (.s (.s (.s (.s (.s (.s .z))))))) | exact .s (.s (.s (.s (.s (.s (.s (.s (.s .z)))))))) | exact .s (.s (.s (.s (.s (.s (.s (.s (.s (.s .z))))))))) | exact .s (.s (.s (.s (.s (.s (.s (.s (.s (.s (.s .z)))))))))) | exact .s (.s (.s (.s (.s (.s (.s (.s (.s (.s (.s (.s .z))))))))))) | exact .s (.s (.s (.s (.s (.s (.s (.s (.s (.s (.s (.s (.s .z))))))))))))) (by rfl) | exact Sep.loadA ‹_› (by first | exact .z | exact .s .z | exact .s (.s .z) | exact .s (.s (.s .z)) | exact .s (.s (.s (.s .z))) | exact .s (.s (.s (.s (.s .z)))) | exact .s (.s (.s (.s (.s (.s .z))))) | exact .s (.s (.s (.s (.s (.s (.s .z)))))) | exact .s (.s (.s (.s (.s (.s (.s (.s .z))))))) | exact .s (.s (.s (.s (.s (.s (.s (.s (.s .z)))))))) | exact .s (.s (.s (.s (.s (.s (.s (.s (.s (.s .z))))))))) | exact .s (.s (.s (.s (.s (.s (.s (.s (.s (.s (.s .z)))))))))) | exact .s (.s (.s (.s (.s (.s (.s (.s (.s (.s (.s (.s .z))))))))))) | exact .s (.s (.s (.s (.s (.s (.s (.s (.s (.s (.s (.s (.s .z))))))))))))) (by rfl) | rfl) ?_)) ?_
          refine Tells.call rfl (call27 orOk or_fn d4.tb (by omega) w4 (by omega) h) ?_
          rintro _ _ ⟨ns5, r5, rfl, h, d5⟩
          have e5 := d5.cnt
          have e5' := pre_len d5.pre
          have w5 := d5.val
          refine .bs1 ?_
          have hp2 := Sep.hfront (l1 := [_, _, _, _, _, _]) h
          refine Tells.appendO j6 hp2 (.inl rfl) (by rw [hlm]; simp only [room]; omega) (by decide) (by rfl) (by rfl) ?_
          intro g' H2 m6 j6' hp3
          have hp4 := Sep.hfront (l1 := H2) hp3
          refine .add (by rfl) (by omega) ?_
          have hpl : pl.map vI ++ [vI r5] = (pl ++ [r5]).map vI := by simp
          rw [hpl]
          refine hL3 (i - 1) _ _ (by omega) ⟨j + 1, ns5, pl ++ [r5], g', H2, by omega, d5.tb, by rw [Nat.succ_mul]; omega, by simp [j4], ?_, by simpa using j6', rfl, ?_⟩
          · intro x hx
            rw [List.take_add_one, hn]
            show ∃ y, _ ∧ _ ∧ ∀ ρ, _ = sem (f.nodes.take j ++ [n]) x _
            by_cases hxl : x < j + 2
            · obtain ⟨z, z1, z2, z3⟩ := j5 x hxl
              refine ⟨z, by rw [List.getElem?_append_left (by omega)]; exact z1, by omega, fun ρ => ?_⟩
              rw [sem_app (by rw [htl]; omega), ← z3, sem_pre d5.pre (by omega), sem_pre d4.pre (by omega), sem_pre d3.pre (by omega), sem_pre d2.pre (by omega), sem_pre d1.pre (by omega)]
            · have hxe : x = (f.nodes.take j).length + 2 := by omega
              refine ⟨r5, by rw [List.getElem?_append_right (by omega), show x - pl.length = 0 by omega]; rfl, w5, fun ρ => ?_⟩
              rw [hxe, sem_snoc, d5.sem]
              show (sem ns4 r2 ρ || sem ns4 r4 ρ) = _
              rw [sem_pre d4.pre (by omega), sem_pre d3.pre (by omega), d2.sem, d4.sem]
              show ((sem ns1 r1 ρ && sem ns1 xh ρ) || (sem ns3 r3 ρ && sem ns3 xl ρ)) = _
              rw [d3.sem]
              show (_ || ((!sem ns2 r1 ρ) && _)) = _
              rw [sem_pre d2.pre (by omega), d1.sem, sem_varB, sem_pre d1.pre (by omega), sem_pre d3.pre (by omega), sem_pre d2.pre (by omega), sem_pre d1.pre (by omega), h3, l3, hy]
              simp only [semZ, decide_eq_false (show ¬ y < 0 by omega), Bool.false_or, Option.getD_some]
              exact orIf _ _ _
          · exact (hp4.mvs [4, 3, 3, 3, 4]).tail
        · have hjl : j = f.nodes.length := by omega
          subst hjl
          rw [List.take_length] at j5
          by_cases hne : f.nodes.length = 0
          · have hn0 : f.nodes = [] := List.eq_nil_of_length_eq_zero hne
            refine .lss ?_
            refine .condF (by first | assumption | omega) ?_
            refine .blk ?_
            refine .fieldAddr ?_
            refine .load1 ‹_› (.s (.s (.s (.s .z)))) (by rfl) ?_
            refine .lenL ?_
            refine .eql ?_
            refine .condT (by first | assumption | omega) ?_
            refine .loadA ‹_› (.s (.s (.s (.s .z)))) (by rfl) ?_
            refine .storeA ‹_› (.s (.s (.s .z))) (by rfl) (by rfl) ?_
            intro m h
            refine .loadA ‹_› (.s (.s (.s .z))) (by rfl) ?_
            refine .ret1 (by rfl) ?_
            intro m hobj
            refine ⟨f, ⟨k, rfl, hk⟩, (h.objs hobj).tail.tail.tail.tail.tail.right, hf, f, hf.toCan, fun ρ => ?_, hf.toCan.cap, by rw [if_neg (by omega)]⟩
            rw [renS_ok hok]
            simp only [BF.sem, hn0, if_true]
          · obtain ⟨y, y1, y2, y3⟩ := j5 (f.nodes.length + 1) (by omega)
            have hgy : (pl.map vI)[f.nodes.length + 1]? = some (vI y) := by rw [List.getElem?_map, y1]; rfl
            refine .lss ?_
            refine .condF (by first | assumption | omega) ?_
            refine .blk ?_
            refine .fieldAddr ?_
            refine .load1 ‹_› (.s (.s (.s (.s .z)))) (by rfl) ?_
            refine .lenL ?_
            refine .eql ?_
            refine .condF (by first | assumption | omega) ?_
            refine .lenL ?_
            refine .sub (by rfl) (by omega) ?_
            refine .indexL (j := f.nodes.length + 1) (by omega) hgy ?_
            refine .loadC1 (by rfl) ?_
            refine Tells.call rfl (call36 (K := 6) j2 y2 (by omega) (by omega) h) ?_
            rintro _ _ ⟨q, ⟨k3, rfl, hk3⟩, h, q2, q3⟩
            refine .storeA ‹_› (.s (.s (.s .z))) (by rfl) (by rfl) ?_
            intro m h
            refine .loadA ‹_› (.s (.s (.s .z))) (by rfl) ?_
            refine .ret1 (by rfl) ?_
            intro m hobj
            refine ⟨q, ⟨k3, rfl, hk3⟩, (h.objs hobj).tail.tail.tail.tail.tail.right, q2, q3.congr fun ρ => ?_⟩
            rw [renS_ok hok, y3]
            simp only [BF.sem]
            rw [if_neg (fun e => hne (by rw [e]; rfl))]
      · refine ⟨0, [], [0, 1], .full, [], by omega, ⟨.nil, fun n hn => by cases hn⟩, by simp, rfl, fun x hx => ?_, .full, rfl, h⟩
        rcases (show x = 0 ∨ x = 1 by omega) with rfl | rfl
        · exact ⟨0, rfl, by omega, fun ρ => by rw [sem_zero, sem_zero]⟩
        · exact ⟨1, rfl, by omega, fun ρ => by rw [sem_one, sem_one]⟩
  · exact ⟨0, [], by omega, ⟨fun i v h => by omega, fun i i' v w h => by omega, fun y ⟨i, v, h, _⟩ => by omega, fun y _ => rfl⟩, rfl, h⟩
end Go.Proofs.P16
