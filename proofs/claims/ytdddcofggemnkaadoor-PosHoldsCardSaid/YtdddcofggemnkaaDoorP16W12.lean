/- The walk through the law's tables. -/
import Derived.Test.YtdddcofggemnkaaDoorP16W11
namespace Go.Proofs.P16
set_option linter.all false
open Go Go.Am Go.Bdd
attribute [local irreducible] loadK storeK newK boxK tipK makeMapK buildTK buildK buildSliceK nilK binK unK condK convK eqvK pickK gK gDK vK extractK fieldK lookupK mapUpdateK appendK min2K max2K retK makeSliceK freezeK bytesK loopV blkK stayK sameK rangeK callK aFieldAddr aIndexAddr aIndexAddrA aLen aIndex aSlice

/-- An act. -/
structure ActR where
  d : Int
  v : Int
  a : Int
  b : Int
  l : List Int
def IsAct (x : AV) (a : ActR) : Prop := ∃ lv, x = .agg [.int .i64 a.d, .int .i64 a.v, .int .i64 a.a, .int .i64 a.b, lv] ∧ IsInts lv a.l
def IsTs (x : AV) (ts : List Nat) : Prop := ∃ k, x = .list .shared k (ts.map vU) ∧ (k = 1 ∨ ts = [])
def pickN (ts : List Nat) (a : Int) : Nat := (ts[placeN a ts.length]?).getD 0

theorem call39 {m : Mem} {fr : Heap} {x y : AV} {a : ActR} {ts : List Nat} (hx : IsAct x a) (hy : IsTs y ts) (hl : ts.length < 4294967296) (hs : Sep m fr) : Tells (Am.Call T 39 [x, y] m) fun r m' => r = .agg [vU (pickN ts a.a), vU (pickN ts a.b)] ∧ Sep m' fr := by
  obtain ⟨_, rfl, ⟨k1, rfl, hk1⟩⟩ := hx
  obtain ⟨k2, rfl, hk2⟩ := hy
  refine Tells.fn 0 rfl F39_ok rfl ?_
  show Tells (S39 (Am.Call T) 0 m (.agg [.int .i64 a.d, .int .i64 a.v, .int .i64 a.a, .int .i64 a.b, .list .shared k1 (a.l.map vZ)]) (.list .shared k2 (ts.map vU))) _
  have h : Sep ⟨m.objs, none⟩ fr := hs.objs rfl
  have hlen : (ts.map vU).length = ts.length := List.length_map _
  unfold S39 G39
  by_cases h0 : ts.length = 0
  · have hn0 : ts = [] := List.eq_nil_of_length_eq_zero h0
    refine .boxA ‹_› ?_
    intro nw m h
    refine .new ‹_› ?_
    intro nw m h
    refine .build (cs := [.int .u64 0, .int .u64 0]) (by rfl) ?_
    refine .new ‹_› ?_
    intro nw m h
    refine .storeA ‹_› .z (by rfl) (by rfl) ?_
    intro m h
    refine .lenL ?_
    refine .gtr ?_
    refine .condF (by first | assumption | omega) ?_
    refine .loadA ‹_› .z (by rfl) ?_
    refine .storeA ‹_› (.s .z) (by rfl) (by rfl) ?_
    intro m h
    refine .loadA ‹_› (.s .z) (by rfl) ?_
    refine .ret1 (by rfl) ?_
    intro m hobj
    exact ⟨by rw [hn0]; rfl, (h.objs hobj).tail.tail.tail⟩
  · have hk2 : k2 = 1 := hk2.resolve_right (by rintro rfl; exact h0 rfl)
    subst hk2
    have hpos : 0 < ts.length := by omega
    have pk : ∀ z, (ts.map vU)[placeN z ts.length]? = some (vU (pickN ts z)) := fun z => by
      rw [List.getElem?_map, pickN, List.getElem?_eq_getElem (placeN_lt hpos)]; rfl
    refine .boxA ‹_› ?_
    intro nw m h
    refine .new ‹_› ?_
    intro nw m h
    refine .build (cs := [.int .u64 0, .int .u64 0]) (by rfl) ?_
    refine .new ‹_› ?_
    intro nw m h
    refine .storeA ‹_› .z (by rfl) (by rfl) ?_
    intro m h
    refine .lenL ?_
    refine .gtr ?_
    refine .condT (by first | assumption | omega) ?_
    refine .fieldAddr ?_
    refine .load1 ‹_› (.s (.s .z)) (by rfl) ?_
    refine .lenL ?_
    rw [hlen]
    refine Tells.call rfl (call12 hpos hl h) ?_
    rintro _ _ ⟨rfl, h⟩
    refine .indexL (by rfl) (pk _) ?_
    refine .loadC1 (by rfl) ?_
    refine .indexA (j := 0) (by rfl) (by decide) ?_
    refine .store20 ‹_› .z (by rfl) (by rfl) ?_
    intro m h
    refine .fieldAddr ?_
    refine .load1 ‹_› (.s (.s .z)) (by rfl) ?_
    refine .lenL ?_
    rw [hlen]
    refine Tells.call rfl (call12 hpos hl h) ?_
    rintro _ _ ⟨rfl, h⟩
    refine .indexL (by rfl) (pk _) ?_
    refine .loadC1 (by rfl) ?_
    refine .indexA (j := 1) (by rfl) (by decide) ?_
    refine .store21 ‹_› .z (by rfl) (by rfl) ?_
    intro m h
    refine .loadA ‹_› .z (by rfl) ?_
    refine .storeA ‹_› (.s .z) (by rfl) (by rfl) ?_
    intro m h
    refine .loadA ‹_› (.s .z) (by rfl) ?_
    refine .ret1 (by rfl) ?_
    intro m hobj
    exact ⟨rfl, (h.objs hobj).tail.tail.tail⟩

/-- What is known of a renaming up to a variable. -/
structure RenTo (L : List Int) (f : BF) (c v : Nat) (seen : List Int) (frm : Nat) : Prop where
  ok : ∀ w, w < v → Hg f w → ∃ y : Int, L[w]? = some y ∧ 0 ≤ y
  inj : ∀ w u, w < v → u < v → Hg f w → Hg f u → w ≠ u → L[w]? ≠ L[u]?
  mem : ∀ y : Int, y ∈ seen ↔ ∃ w, w < v ∧ Hg f w ∧ L[w]? = some y
  len : seen.length ≤ v
  lt : frm < 64
  bit : ∀ w, Hg f w → frm.testBit w = (decide (w < v) && bitN c ((L[w]?).getD 0))

theorem RenTo.skip {L : List Int} {f : BF} {c v : Nat} {seen : List Int} {frm : Nat} (h : RenTo L f c v seen frm) (hn : ¬ Hg f v) : RenTo L f c (v + 1) seen frm := by
  have key : ∀ w, w < v + 1 → Hg f w → w < v := fun w h1 h2 => by
    have : w ≠ v := fun e => hn (e ▸ h2)
    omega
  refine ⟨fun w h1 h2 => h.ok w (key w h1 h2) h2, fun w u h1 h2 h3 h4 => h.inj w u (key w h1 h3) (key u h2 h4) h3 h4, fun y => ?_, by have := h.len; omega, h.lt, fun w hw => ?_⟩
  · rw [h.mem]
    constructor
    · rintro ⟨w, h1, h2, h3⟩; exact ⟨w, by omega, h2, h3⟩
    · rintro ⟨w, h1, h2, h3⟩; exact ⟨w, key w h1 h2, h2, h3⟩
  · rw [h.bit w hw]
    have : decide (w < v) = decide (w < v + 1) := by
      by_cases e : w < v
      · rw [decide_eq_true e, decide_eq_true (by omega)]
      · rw [decide_eq_false e, decide_eq_false (fun e2 => e (key w e2 hw))]
    rw [this]

theorem RenTo.next {L : List Int} {f : BF} {c v : Nat} {seen : List Int} {frm : Nat} (h : RenTo L f c v seen frm) (hv : v < 6) (hg : Hg f v) {y : Int} (hy : L[v]? = some y) (h0 : 0 ≤ y) (hn : y ∉ seen) : RenTo L f c (v + 1) (seen ++ [y]) (if bitN c y then frm ||| 2 ^ v else frm) := by
  have hne : ∀ w, w < v → Hg f w → L[w]? ≠ L[v]? := fun w h1 h2 e => hn ((h.mem y).2 ⟨w, h1, h2, by rw [e, hy]⟩)
  refine ⟨fun w h1 h2 => ?_, fun w u h1 h2 h3 h4 h5 => ?_, fun z => ?_, by have := h.len; simp; omega, ?_, fun w hw => ?_⟩
  · by_cases e : w = v
    · subst e; exact ⟨y, hy, h0⟩
    · exact h.ok w (by omega) h2
  · by_cases e1 : w = v
    · subst e1; exact (hne u (by omega) h4).symm
    · by_cases e2 : u = v
      · subst e2; exact hne w (by omega) h3
      · exact h.inj w u (by omega) (by omega) h3 h4 h5
  · rw [List.mem_append, h.mem, List.mem_singleton]
    constructor
    · rintro (⟨w, h1, h2, h3⟩ | rfl)
      · exact ⟨w, by omega, h2, h3⟩
      · exact ⟨v, by omega, hg, hy⟩
    · rintro ⟨w, h1, h2, h3⟩
      by_cases e : w = v
      · subst e; rw [hy] at h3; exact .inr (Option.some.inj h3).symm
      · exact .inl ⟨w, by omega, h2, h3⟩
  · split
    · exact or_lt h.lt hv
    · exact h.lt
  · have hb := h.bit w hw
    by_cases e : w = v
    · subst e
      rw [decide_eq_false (by omega), Bool.false_and] at hb
      rw [decide_eq_true (by omega), Bool.true_and, hy]
      show _ = bitN c y
      cases hz : bitN c y with
      | true => rw [if_pos rfl, Nat.testBit_or, Nat.testBit_two_pow_self]; simp
      | false => rw [if_neg (by simp)]; exact hb
    · have e2 : decide (w < v) = decide (w < v + 1) := by
        by_cases e3 : w < v
        · rw [decide_eq_true e3, decide_eq_true (by omega)]
        · rw [decide_eq_false e3, decide_eq_false (by omega)]
      rw [← e2, ← hb]
      split
      · rw [Nat.testBit_or, Nat.testBit_two_pow_of_ne (fun e3 => e e3.symm)]; simp
      · rfl

theorem RenTo.done {L : List Int} {t : Nat} {f : BF} (hf : Tt t f) {c : Nat} {seen : List Int} {frm : Nat} (h : RenTo L f c 6 seen frm) : t.testBit frm = renS L f (chR c) := by
  have hok : RenOk L f := ⟨fun v hv => h.ok v (hv.lt hf.gd) hv, fun v w hv hw => h.inj v w (hv.lt hf.gd) (hw.lt hf.gd) hv hw⟩
  rw [renS_ok hok, hf.bit _ h.lt]
  refine sem_hg hf.gd.toCan fun v hv => ?_
  have hl := hv.lt hf.gd
  obtain ⟨y, hy, h0⟩ := h.ok v hl hv
  rw [← bitN_ch (by rw [hy]; exact h0)]
  simp only [chR, decide_eq_true hl, Bool.true_and]
  rw [h.bit v hv, decide_eq_true hl, Bool.true_and]

set_option maxHeartbeats 4000000 in
theorem call40 {m : Mem} {fr : Heap} {x : AV} {a : ActR} {t c : Nat} {f : BF} (hx : IsAct x a) (hf : Tt t f) (hc : c < 64) (hs : Sep m fr) : Tells (Am.Call T 40 [x, vU t, vI c] m) fun r m' => r = .bool (renS a.l f (chR c)) ∧ Sep m' fr := by
  obtain ⟨_, rfl, ⟨k1, rfl, hk1⟩⟩ := hx
  refine Tells.fn 7 rfl F40_ok rfl ?_
  show Tells (S40 (Am.Call T) _ m (.agg [.int .i64 a.d, .int .i64 a.v, .int .i64 a.a, .int .i64 a.b, .list .shared k1 (a.l.map vZ)]) (vU t) (vI c)) _
  have h : Sep ⟨m.objs, none⟩ fr := hs.objs rfl
  have hlen : (a.l.map vZ).length = a.l.length := List.length_map _
  have ht := hf.lt
  unfold S40 G40
  refine .boxA ‹_› ?_
  intro nw m h
  refine .tip ‹_› ?_
  intro nw m h
  rename_i bx _ _
  refine Tells.loop (fun i vs m => ∃ v seen frm, v + i = 6 ∧ RenTo a.l f c v seen frm ∧ vs = [vU t, vI c, .ptr bx 0 0, vI frm, .list (.own nw) 1 (seen.map vZ), vI v] ∧ Sep m ((nw, .tip seen.length) :: (bx, .row 0 [.int .i64 a.d, .int .i64 a.v, .int .i64 a.a, .int .i64 a.b, .list .shared k1 (a.l.map vZ)]) :: fr)) ?_ (i := 6) (by omega) ?_
  · rintro i vs m L ⟨v, seen, frm, i1, i2, rfl, h⟩ hL
    by_cases hv : v < 6
    · refine .lss ?_
      refine .condT (by first | assumption | omega) ?_
      refine Tells.call rfl (call51 hf hv h) ?_
      rintro _ _ ⟨rfl, h⟩
      by_cases hg : Hg f v
      · rw [decide_eq_true hg]
        by_cases hvl : v < a.l.length
        · obtain ⟨y, hy⟩ : ∃ y, a.l[v]? = some y := ⟨_, List.getElem?_eq_getElem hvl⟩
          have hgy : (a.l.map vZ)[v]? = some (.int .i64 y) := by rw [List.getElem?_map, hy]; rfl
          have hk1 : k1 = 1 := hk1.resolve_right (by intro e; rw [e] at hvl; simp at hvl)
          subst hk1
          by_cases hy0 : 0 ≤ y
          · refine .not ?_
            refine .condff ?_
            refine .fieldAddr ?_
            refine .load1 ‹_› (.s .z) (by rfl) ?_
            refine .lenL ?_
            refine .geq ?_
            refine .gF (by rfl) (by first | assumption | omega) ?_
            refine .fieldAddr ?_
            refine .gF (by rfl) (by first | assumption | omega) ?_
            refine .load1 ‹_› (.s .z) (by rfl) ?_
            refine .gF (by rfl) (by first | assumption | omega) ?_
            refine .gF (by rfl) (by first | assumption | omega) ?_
            refine .indexL (j := v) (by rfl) hgy ?_
            refine .gF (by rfl) (by first | assumption | omega) ?_
            refine .loadC1 (by rfl) ?_
            refine .gF (by rfl) (by first | assumption | omega) ?_
            refine .lss ?_
            refine .pickF (by first | assumption | omega) ?_
            refine .condF (by first | assumption | omega) ?_
            have hsl := i2.len
            have hsm : (seen.map vZ).length = seen.length := List.length_map _
            refine Tells.loop (fun i' vs m => ∃ j : Nat, j + i' = seen.length ∧ y ∉ seen.take j ∧ vs = [vU t, vI c, .ptr bx 0 0, vI frm, .list (.own nw) 1 (seen.map vZ), vI v, vI j] ∧ Sep m ((nw, .tip seen.length) :: (bx, .row 0 [.int .i64 a.d, .int .i64 a.v, .int .i64 a.a, .int .i64 a.b, .list .shared 1 (a.l.map vZ)]) :: fr)) ?_ (i := seen.length) (by omega) ?_
            · rintro i' vs m L2 ⟨j, j1, j2, rfl, h⟩ hL2
              by_cases hj : j < seen.length
              · obtain ⟨z, hz⟩ : ∃ z, seen[j]? = some z := ⟨_, List.getElem?_eq_getElem hj⟩
                have hgz : (seen.map vZ)[j]? = some (.int .i64 z) := by rw [List.getElem?_map, hz]; rfl
                by_cases he : z = y
                · refine .lenL ?_
                  refine .lss ?_
                  refine .condT (by first | assumption | omega) ?_
                  refine .indexL (j := j) (by rfl) hgz ?_
                  refine .loadC1 (by rfl) ?_
                  refine .fieldAddr ?_
                  refine .load1 ‹_› (.s .z) (by rfl) ?_
                  refine .indexL (j := v) (by rfl) hgy ?_
                  refine .loadC1 (by rfl) ?_
                  refine .eql ?_
                  refine .condT (by first | assumption | omega) ?_
                  refine .blkR ?_
                  refine .blkR ?_
                  refine .blkR ?_
                  refine .ret1 (by rfl) ?_
                  intro m hobj
                  refine ⟨?_, (h.objs hobj).tail.tail⟩
                  rw [renS_not]
                  intro hok
                  obtain ⟨w, w1, w2, w3⟩ := (i2.mem y).1 (he ▸ List.mem_of_getElem? hz)
                  exact hok.2 w v w2 hg (by omega) (by rw [w3, hy])
                · refine .lenL ?_
                  refine .lss ?_
                  refine .condT (by first | assumption | omega) ?_
                  refine .indexL (j := j) (by rfl) hgz ?_
                  refine .loadC1 (by rfl) ?_
                  refine .fieldAddr ?_
                  refine .load1 ‹_› (.s .z) (by rfl) ?_
                  refine .indexL (j := v) (by rfl) hgy ?_
                  refine .loadC1 (by rfl) ?_
                  refine .eql ?_
                  refine .condF (by first | assumption | omega) ?_
                  refine .add (by rfl) (by omega) ?_
                  refine hL2 (i' - 1) _ _ (by omega) ⟨j + 1, by omega, ?_, rfl, h⟩
                  rw [List.take_add_one, hz]
                  simp only [Option.toList_some, List.mem_append, List.mem_singleton, not_or]
                  exact ⟨j2, fun e => he e.symm⟩
              · rw [List.take_of_length_le (by omega)] at j2
                have hnext := i2.next hv hg hy hy0 j2
                have hfl := i2.lt
                have p1 : 2 ^ v < 64 := Nat.pow_lt_pow_right (n := 6) (by decide) hv
                refine .lenL ?_
                refine .lss ?_
                refine .condF (by first | assumption | omega) ?_
                refine .blk ?_
                refine .fieldAddr ?_
                refine .load1 ‹_› (.s .z) (by rfl) ?_
                refine .indexL (j := v) (by rfl) hgy ?_
                refine .loadC1 (by rfl) ?_
                refine .bs1 ?_
                refine .append1 h .z (by rw [hsm]) (by simp only [room]; omega) (by decide) (by rfl) (by rfl) ?_
                intro m h
                refine .fieldAddr ?_
                refine .load1 ‹_› (.s .z) (by rfl) ?_
                refine .indexL (j := v) (by rfl) hgy ?_
                refine .loadC1 (by rfl) ?_
                refine Tells.call rfl (call7 hc h) ?_
                rintro _ _ ⟨rfl, h⟩
                have hlm : seen.map vZ ++ [AV.int .i64 y] = (seen ++ [y]).map vZ := by simp
                rw [hlm]
                cases hb : bitN c y with
                | true =>
                  rw [hb, if_pos rfl] at hnext
                  refine .condtt ?_
                  refine .shl1I (by omega) ?_
                  refine .orI (by omega) (by omega) ?_
                  refine .add (by rfl) (by omega) ?_
                  refine hL (i - 1) _ _ (by omega) ⟨v + 1, _, _, by omega, hnext, rfl, ?_⟩
                  simpa using h
                | false =>
                  rw [hb, if_neg (by simp)] at hnext
                  refine .condff ?_
                  refine .add (by rfl) (by omega) ?_
                  refine hL (i - 1) _ _ (by omega) ⟨v + 1, _, _, by omega, hnext, rfl, ?_⟩
                  simpa using h
            · exact ⟨0, by omega, by simp, rfl, h⟩
          · refine .not ?_
            refine .condff ?_
            refine .fieldAddr ?_
            refine .load1 ‹_› (.s .z) (by rfl) ?_
            refine .lenL ?_
            refine .geq ?_
            refine .gF (by rfl) (by first | assumption | omega) ?_
            refine .fieldAddr ?_
            refine .gF (by rfl) (by first | assumption | omega) ?_
            refine .load1 ‹_› (.s .z) (by rfl) ?_
            refine .gF (by rfl) (by first | assumption | omega) ?_
            refine .gF (by rfl) (by first | assumption | omega) ?_
            refine .indexL (j := v) (by rfl) hgy ?_
            refine .gF (by rfl) (by first | assumption | omega) ?_
            refine .loadC1 (by rfl) ?_
            refine .gF (by rfl) (by first | assumption | omega) ?_
            refine .lss ?_
            refine .pickF (by first | assumption | omega) ?_
            refine .condT (by first | assumption | omega) ?_
            refine .blkR ?_
            refine .ret1 (by rfl) ?_
            intro m hobj
            refine ⟨?_, (h.objs hobj).tail.tail⟩
            rw [renS_not]
            intro hok
            obtain ⟨z, z1, z2⟩ := hok.1 v hg
            rw [hy] at z1
            exact hy0 (Option.some.inj z1 ▸ z2)
        · refine .not ?_
          refine .condff ?_
          refine .fieldAddr ?_
          refine .load1 ‹_› (.s .z) (by rfl) ?_
          refine .lenL ?_
          refine .geq ?_
          refine .gTF (by rfl) (by first | assumption | omega) ?_
          refine .gTF (by rfl) (by first | assumption | omega) ?_
          refine .gTF (by rfl) (by first | assumption | omega) ?_
          refine .gTF (by rfl) (by first | assumption | omega) ?_
          refine .gTF (by rfl) (by first | assumption | omega) ?_
          refine .gTF (by rfl) (by first | assumption | omega) ?_
          refine .pickT (by first | assumption | omega) ?_
          refine .condtt ?_
          refine .blkR ?_
          refine .ret1 (by rfl) ?_
          intro m hobj
          refine ⟨?_, (h.objs hobj).tail.tail⟩
          rw [renS_not]
          intro hok
          obtain ⟨z, z1, z2⟩ := hok.1 v hg
          rw [List.getElem?_eq_none (by omega)] at z1
          cases z1
      · rw [decide_eq_false hg]
        refine .not ?_
        refine .condtt ?_
        refine .add (by rfl) (by omega) ?_
        exact hL (i - 1) _ _ (by omega) ⟨v + 1, seen, frm, by omega, i2.skip hg, rfl, h⟩
    · have : v = 6 := by omega
      subst this
      have s1 := shr_lt (c := frm) ht
      have hfl := i2.lt
      refine .lss ?_
      refine .condff ?_
      refine .blk ?_
      refine .shrU (by omega) ?_
      refine .and1U (by omega) ?_
      refine .bitT ?_
      refine .ret1 (by rfl) ?_
      intro m hobj
      exact ⟨by rw [i2.done hf], (h.objs hobj).tail.tail⟩
  · exact ⟨0, [], 0, by omega, ⟨fun w h => by omega, fun w u h => by omega, fun y => ⟨(fun h => by cases h), fun ⟨w, h, _⟩ => by omega⟩, by simp, by omega, fun w hw => by simp⟩, rfl, h⟩
end Go.Proofs.P16
