/- The walk through what an act is said to make. -/
import Derived.Test.YtdddcofggemnkaaDoorP16W12
namespace Go.Proofs.P16
set_option linter.all false
open Go Go.Am Go.Bdd
attribute [local irreducible] loadK storeK newK boxK tipK makeMapK buildTK buildK buildSliceK nilK binK unK condK convK eqvK pickK gK gDK vK extractK fieldK lookupK mapUpdateK appendK min2K max2K retK makeSliceK freezeK bytesK loopV blkK stayK sameK rangeK callK aFieldAddr aIndexAddr aIndexAddrA aLen aIndex aSlice

/-- What an act makes of two functions. -/
noncomputable def actS (a : ActR) (f g : BF) (ρ : Nat → Bool) : Bool :=
  if a.d = 0 then semZ a.v ρ else
  if a.d = 1 then iffS a.v a.l ρ else
  if a.d = 2 then f.sem ρ && g.sem ρ else
  if a.d = 3 then f.sem ρ || g.sem ρ else
  if a.d = 4 then (if a.v < 0 then f.sem ρ else f.sem (upd ρ a.v.toNat false) || f.sem (upd ρ a.v.toNat true)) else
  if a.d = 5 then renS a.l f ρ else decide (0 < a.v)

theorem semZ_bit {z : Int} {c : Nat} : semZ z (chR c) = (decide (z < 0) || bitN c z) := by
  by_cases h : z < 0
  · rw [semZ, decide_eq_true h]; rfl
  · rw [semZ, decide_eq_false h, bitN_ch (by omega)]

theorem shl1Z {P : AV → Mem → Prop} {z : Int} {v : Nat} (hz : z = v) (hv : v < 32) {k : AV → Rho} (hk : Tells (k (.int .i64 ((2 ^ v : Nat) : Int))) P) : Tells (binK .shl (.int .i64 1) (.int .i64 z) k) P := by
  subst hz; exact Tells.shl1I hv hk

set_option maxHeartbeats 4000000 in
theorem call20 {m : Mem} {fr : Heap} {x y : AV} {a : ActR} {ts : List Nat} {c : Nat} {f g : BF} (hx : IsAct x a) (hy : IsTs y ts) (hl : ts.length < 4294967296) (hf : Tt (pickN ts a.a) f) (hg : Tt (pickN ts a.b) g) (hc : c < 64) (hv5 : a.v ≤ 5) (hll : a.l.length ≤ 16) (hs : Sep m fr) :
    Tells (Am.Call T 20 [x, y, vI c] m) fun r m' => r = .bool (actS a f g (chR c)) ∧ Sep m' fr := by
  obtain ⟨_, rfl, ⟨k1, rfl, hk1⟩⟩ := hx
  obtain ⟨k2, rfl, hk2⟩ := hy
  refine Tells.fn (a.l.length + 1) rfl F20_ok rfl ?_
  show Tells (S20 (Am.Call T) _ m (.agg [.int .i64 a.d, .int .i64 a.v, .int .i64 a.a, .int .i64 a.b, .list .shared k1 (a.l.map vZ)]) (.list .shared k2 (ts.map vU)) (vI c)) _
  have h : Sep ⟨m.objs, none⟩ fr := hs.objs rfl
  have hlen : (a.l.map vZ).length = a.l.length := List.length_map _
  have ht := hf.lt
  have hu := hg.lt
  have hfb := hf.bit c hc
  have hgb := hg.bit c hc
  unfold S20 G20
  refine .boxA ‹_› ?_
  intro nw m h
  refine .loadA ‹_› .z (by rfl) ?_
  refine Tells.call rfl (call39 (a := a) ⟨_, rfl, ⟨k1, rfl, hk1⟩⟩ ⟨k2, rfl, hk2⟩ hl h) ?_
  rintro _ m1 ⟨rfl, h⟩
  generalize pickN ts a.a = t at *
  generalize pickN ts a.b = u at *
  have s1 := shr_lt (c := c) ht
  have s2 := shr_lt (c := c) hu
  by_cases h0 : a.d = 0
  · rw [actS, if_pos h0, semZ_bit]
    by_cases hv : a.v < 0
    · refine .new ‹_› ?_
      intro nw m h
      refine .storeA ‹_› .z (by rfl) (by rfl) ?_
      intro m h
      refine .fieldAddr ?_
      refine .load1 ‹_› (.s .z) (by rfl) ?_
      refine .eql ?_
      refine .condT (by first | assumption | omega) ?_
      refine .fieldAddr ?_
      refine .load1 ‹_› (.s .z) (by rfl) ?_
      refine .lss ?_
      refine .gTF (by rfl) (by first | assumption | omega) ?_
      refine .gTF (by rfl) (by first | assumption | omega) ?_
      refine .gTF (by rfl) (by first | assumption | omega) ?_
      refine .gTF (by rfl) (by first | assumption | omega) ?_
      refine .pickT (by first | assumption | omega) ?_
      refine .ret1 (by rfl) ?_
      intro m hobj
      exact ⟨by rw [decide_eq_true hv]; rfl, (h.objs hobj).tail.tail⟩
    · refine .new ‹_› ?_
      intro nw m h
      refine .storeA ‹_› .z (by rfl) (by rfl) ?_
      intro m h
      refine .fieldAddr ?_
      refine .load1 ‹_› (.s .z) (by rfl) ?_
      refine .eql ?_
      refine .condT (by first | assumption | omega) ?_
      refine .fieldAddr ?_
      refine .load1 ‹_› (.s .z) (by rfl) ?_
      refine .lss ?_
      refine .gF (by rfl) (by first | assumption | omega) ?_
      refine .gF (by rfl) (by first | assumption | omega) ?_
      refine .fieldAddr ?_
      refine .gF (by rfl) (by first | assumption | omega) ?_
      refine .load1 ‹_› (.s .z) (by rfl) ?_
      refine .gF (by rfl) (by first | assumption | omega) ?_
      refine Tells.call rfl (call7 hc h) ?_
      rintro _ _ ⟨rfl, h⟩
      refine .pickF (by first | assumption | omega) ?_
      refine .ret1 (by rfl) ?_
      intro m hobj
      exact ⟨by rw [decide_eq_false hv]; rfl, (h.objs hobj).tail.tail⟩
  · by_cases h1 : a.d = 1
    · rw [actS, if_neg h0, if_pos h1]
      refine .new ‹_› ?_
      intro nw m h
      refine .storeA ‹_› .z (by rfl) (by rfl) ?_
      intro m h
      refine .fieldAddr ?_
      refine .load1 ‹_› (.s .z) (by rfl) ?_
      refine .eql ?_
      refine .condF (by first | assumption | omega) ?_
      refine .eql ?_
      refine .condT (by first | assumption | omega) ?_
      rename_i bx _ _ _ _ _
      refine Tells.loop (fun i vs m => ∃ j : Nat, j + i = a.l.length ∧ vs = [vI c, .ptr bx 0 0, .bool ((a.l.take j).all fun x => semZ x (chR c)), vI j] ∧ Sep m ((nw, .row 0 [vU t, vU u]) :: (bx, .row 0 [.int .i64 a.d, .int .i64 a.v, .int .i64 a.a, .int .i64 a.b, .list .shared k1 (a.l.map vZ)]) :: fr)) ?_ (i := a.l.length) (by omega) ?_
      · rintro i vs m L ⟨j, i1, rfl, h⟩ hL
        by_cases hj : j < a.l.length
        · obtain ⟨y, hy⟩ : ∃ y, a.l[j]? = some y := ⟨_, List.getElem?_eq_getElem hj⟩
          have hgy : (a.l.map vZ)[j]? = some (.int .i64 y) := by rw [List.getElem?_map, hy]; rfl
          have hk1 : k1 = 1 := hk1.resolve_right (by intro e; rw [e] at hj; simp at hj)
          subst hk1
          have hnext : ((a.l.take (j + 1)).all fun x => semZ x (chR c)) = (((a.l.take j).all fun x => semZ x (chR c)) && semZ y (chR c)) := by
            rw [List.take_add_one, hy]; simp
          cases hall : (a.l.take j).all fun x => semZ x (chR c) with
          | true =>
            rw [hall, Bool.true_and, semZ_bit] at hnext
            by_cases hy0 : y < 0
            · refine .fieldAddr ?_
              refine .load1 ‹_› (.s .z) (by rfl) ?_
              refine .lenL ?_
              refine .lss ?_
              refine .condT (by first | assumption | omega) ?_
              refine .gtt ?_
              refine .fieldAddr ?_
              refine .gtt ?_
              refine .load1 ‹_› (.s .z) (by rfl) ?_
              refine .gtt ?_
              refine .gtt ?_
              refine .indexL (j := j) (by rfl) hgy ?_
              refine .gtt ?_
              refine .loadC1 (by rfl) ?_
              refine .gtt ?_
              refine .lss ?_
              refine .gtt ?_
              refine .gTF (by rfl) (by first | assumption | omega) ?_
              refine .gTF (by rfl) (by first | assumption | omega) ?_
              refine .gTF (by rfl) (by first | assumption | omega) ?_
              refine .gTF (by rfl) (by first | assumption | omega) ?_
              refine .gTF (by rfl) (by first | assumption | omega) ?_
              refine .gTF (by rfl) (by first | assumption | omega) ?_
              refine .gTF (by rfl) (by first | assumption | omega) ?_
              refine .gtt ?_
              refine .pickT (by first | assumption | omega) ?_
              refine .picktt ?_
              refine .add (by rfl) (by omega) ?_
              refine hL (i - 1) _ _ (by omega) ⟨j + 1, by omega, ?_, h⟩
              rw [hnext, decide_eq_true hy0]; rfl
            · refine .fieldAddr ?_
              refine .load1 ‹_› (.s .z) (by rfl) ?_
              refine .lenL ?_
              refine .lss ?_
              refine .condT (by first | assumption | omega) ?_
              refine .gtt ?_
              refine .fieldAddr ?_
              refine .gtt ?_
              refine .load1 ‹_› (.s .z) (by rfl) ?_
              refine .gtt ?_
              refine .gtt ?_
              refine .indexL (j := j) (by rfl) hgy ?_
              refine .gtt ?_
              refine .loadC1 (by rfl) ?_
              refine .gtt ?_
              refine .lss ?_
              refine .gtt ?_
              refine .gF (by rfl) (by first | assumption | omega) ?_
              refine .gF (by rfl) (by first | assumption | omega) ?_
              refine .fieldAddr ?_
              refine .gF (by rfl) (by first | assumption | omega) ?_
              refine .load1 ‹_› (.s .z) (by rfl) ?_
              refine .gF (by rfl) (by first | assumption | omega) ?_
              refine .gF (by rfl) (by first | assumption | omega) ?_
              refine .indexL (j := j) (by rfl) hgy ?_
              refine .gF (by rfl) (by first | assumption | omega) ?_
              refine .loadC1 (by rfl) ?_
              refine .gF (by rfl) (by first | assumption | omega) ?_
              refine Tells.call rfl (call7 hc h) ?_
              rintro _ _ ⟨rfl, h⟩
              refine .gtt ?_
              refine .pickF (by first | assumption | omega) ?_
              refine .picktt ?_
              refine .add (by rfl) (by omega) ?_
              refine hL (i - 1) _ _ (by omega) ⟨j + 1, by omega, ?_, h⟩
              rw [hnext, decide_eq_false hy0]; rfl
          | false =>
            rw [hall, Bool.false_and] at hnext
            refine .fieldAddr ?_
            refine .load1 ‹_› (.s .z) (by rfl) ?_
            refine .lenL ?_
            refine .lss ?_
            refine .condT (by first | assumption | omega) ?_
            refine .gft ?_
            refine .gft ?_
            refine .gft ?_
            refine .gft ?_
            refine .gft ?_
            refine .gft ?_
            refine .gft ?_
            refine .gN ?_
            refine .gN ?_
            refine .gN ?_
            refine .gN ?_
            refine .gN ?_
            refine .gN ?_
            refine .gN ?_
            refine .gft ?_
            refine .pickff ?_
            refine .add (by rfl) (by omega) ?_
            refine hL (i - 1) _ _ (by omega) ⟨j + 1, by omega, ?_, h⟩
            rw [hnext]; rfl
        · have hjl : j = a.l.length := by omega
          subst hjl
          rw [List.take_length]
          simp only [iffS]
          by_cases hv : a.v < 0
          · refine .fieldAddr ?_
            refine .load1 ‹_› (.s .z) (by rfl) ?_
            refine .lenL ?_
            refine .lss ?_
            refine .condF (by first | assumption | omega) ?_
            refine .blk ?_
            refine .fieldAddr ?_
            refine .load1 ‹_› (.s .z) (by rfl) ?_
            refine .lss ?_
            refine .gTF (by rfl) (by first | assumption | omega) ?_
            refine .gTF (by rfl) (by first | assumption | omega) ?_
            refine .gTF (by rfl) (by first | assumption | omega) ?_
            refine .gTF (by rfl) (by first | assumption | omega) ?_
            refine .gTF (by rfl) (by first | assumption | omega) ?_
            refine .gTF (by rfl) (by first | assumption | omega) ?_
            refine .pickT (by first | assumption | omega) ?_
            refine .ret1 (by rfl) ?_
            intro m hobj
            exact ⟨by rw [decide_eq_true hv]; rfl, (h.objs hobj).tail.tail⟩
          · refine .fieldAddr ?_
            refine .load1 ‹_› (.s .z) (by rfl) ?_
            refine .lenL ?_
            refine .lss ?_
            refine .condF (by first | assumption | omega) ?_
            refine .blk ?_
            refine .fieldAddr ?_
            refine .load1 ‹_› (.s .z) (by rfl) ?_
            refine .lss ?_
            refine .gF (by rfl) (by first | assumption | omega) ?_
            refine .gF (by rfl) (by first | assumption | omega) ?_
            refine .fieldAddr ?_
            refine .gF (by rfl) (by first | assumption | omega) ?_
            refine .load1 ‹_› (.s .z) (by rfl) ?_
            refine .gF (by rfl) (by first | assumption | omega) ?_
            refine Tells.call rfl (call7 hc h) ?_
            rintro _ _ ⟨rfl, h⟩
            refine .gF (by rfl) (by first | assumption | omega) ?_
            refine .gF (by rfl) (by first | assumption | omega) ?_
            refine .eqB ?_
            refine .pickF (by first | assumption | omega) ?_
            refine .ret1 (by rfl) ?_
            intro m hobj
            refine ⟨?_, (h.objs hobj).tail.tail⟩
            rw [decide_eq_false hv, bitN_ch (by omega)]
            cases chR c a.v.toNat <;> cases (a.l.all fun x => semZ x (chR c)) <;> rfl
      · exact ⟨0, by omega, rfl, h⟩
    · by_cases h2 : a.d = 2
      · rw [actS, if_neg h0, if_neg h1, if_pos h2, ← hfb, ← hgb]
        cases hb : t.testBit c with
        | true =>
          refine .new ‹_› ?_
          intro nw m h
          refine .storeA ‹_› .z (by rfl) (by rfl) ?_
          intro m h
          refine .fieldAddr ?_
          refine .load1 ‹_› (.s .z) (by rfl) ?_
          refine .eql ?_
          refine .condF (by first | assumption | omega) ?_
          refine .eql ?_
          refine .condF (by first | assumption | omega) ?_
          refine .eql ?_
          refine .condT (by first | assumption | omega) ?_
          refine .indexA (j := 0) (by rfl) (by decide) ?_
          refine .load1 ‹_› .z (by rfl) ?_
          refine .shrU (by omega) ?_
          refine .and1U (by omega) ?_
          refine .bitT ?_; rw [hb]
          refine .gtt ?_
          refine .indexA (j := 1) (by rfl) (by decide) ?_
          refine .gtt ?_
          refine .load1 ‹_› .z (by rfl) ?_
          refine .gtt ?_
          refine .gtt ?_
          refine .shrU (by omega) ?_
          refine .gtt ?_
          refine .and1U (by omega) ?_
          refine .gtt ?_
          refine .bitT ?_
          refine .picktt ?_
          refine .ret1 (by rfl) ?_
          intro m hobj
          exact ⟨rfl, (h.objs hobj).tail.tail⟩
        | false =>
          refine .new ‹_› ?_
          intro nw m h
          refine .storeA ‹_› .z (by rfl) (by rfl) ?_
          intro m h
          refine .fieldAddr ?_
          refine .load1 ‹_› (.s .z) (by rfl) ?_
          refine .eql ?_
          refine .condF (by first | assumption | omega) ?_
          refine .eql ?_
          refine .condF (by first | assumption | omega) ?_
          refine .eql ?_
          refine .condT (by first | assumption | omega) ?_
          refine .indexA (j := 0) (by rfl) (by decide) ?_
          refine .load1 ‹_› .z (by rfl) ?_
          refine .shrU (by omega) ?_
          refine .and1U (by omega) ?_
          refine .bitT ?_; rw [hb]
          refine .gft ?_
          refine .gft ?_
          refine .gft ?_
          refine .gft ?_
          refine .gft ?_
          refine .gft ?_
          refine .pickff ?_
          refine .ret1 (by rfl) ?_
          intro m hobj
          exact ⟨rfl, (h.objs hobj).tail.tail⟩
      · by_cases h3 : a.d = 3
        · rw [actS, if_neg h0, if_neg h1, if_neg h2, if_pos h3, ← hfb, ← hgb]
          cases hb : t.testBit c with
          | true =>
            refine .new ‹_› ?_
            intro nw m h
            refine .storeA ‹_› .z (by rfl) (by rfl) ?_
            intro m h
            refine .fieldAddr ?_
            refine .load1 ‹_› (.s .z) (by rfl) ?_
            refine .eql ?_
            refine .condF (by first | assumption | omega) ?_
            refine .eql ?_
            refine .condF (by first | assumption | omega) ?_
            refine .eql ?_
            refine .condF (by first | assumption | omega) ?_
            refine .eql ?_
            refine .condT (by first | assumption | omega) ?_
            refine .indexA (j := 0) (by rfl) (by decide) ?_
            refine .load1 ‹_› .z (by rfl) ?_
            refine .shrU (by omega) ?_
            refine .and1U (by omega) ?_
            refine .bitT ?_; rw [hb]
            refine .gtf ?_
            refine .gtf ?_
            refine .gtf ?_
            refine .gtf ?_
            refine .gtf ?_
            refine .gtf ?_
            refine .picktt ?_
            refine .ret1 (by rfl) ?_
            intro m hobj
            exact ⟨rfl, (h.objs hobj).tail.tail⟩
          | false =>
            refine .new ‹_› ?_
            intro nw m h
            refine .storeA ‹_› .z (by rfl) (by rfl) ?_
            intro m h
            refine .fieldAddr ?_
            refine .load1 ‹_› (.s .z) (by rfl) ?_
            refine .eql ?_
            refine .condF (by first | assumption | omega) ?_
            refine .eql ?_
            refine .condF (by first | assumption | omega) ?_
            refine .eql ?_
            refine .condF (by first | assumption | omega) ?_
            refine .eql ?_
            refine .condT (by first | assumption | omega) ?_
            refine .indexA (j := 0) (by rfl) (by decide) ?_
            refine .load1 ‹_› .z (by rfl) ?_
            refine .shrU (by omega) ?_
            refine .and1U (by omega) ?_
            refine .bitT ?_; rw [hb]
            refine .gff ?_
            refine .indexA (j := 1) (by rfl) (by decide) ?_
            refine .gff ?_
            refine .load1 ‹_› .z (by rfl) ?_
            refine .gff ?_
            refine .gff ?_
            refine .shrU (by omega) ?_
            refine .gff ?_
            refine .and1U (by omega) ?_
            refine .gff ?_
            refine .bitT ?_
            refine .pickff ?_
            refine .ret1 (by rfl) ?_
            intro m hobj
            exact ⟨rfl, (h.objs hobj).tail.tail⟩
        · by_cases h4 : a.d = 4
          · rw [actS, if_neg h0, if_neg h1, if_neg h2, if_neg h3, if_pos h4]
            by_cases hv : a.v < 0
            · rw [if_pos hv, ← hfb]
              refine .new ‹_› ?_
              intro nw m h
              refine .storeA ‹_› .z (by rfl) (by rfl) ?_
              intro m h
              refine .fieldAddr ?_
              refine .load1 ‹_› (.s .z) (by rfl) ?_
              refine .eql ?_
              refine .condF (by first | assumption | omega) ?_
              refine .eql ?_
              refine .condF (by first | assumption | omega) ?_
              refine .eql ?_
              refine .condF (by first | assumption | omega) ?_
              refine .eql ?_
              refine .condF (by first | assumption | omega) ?_
              refine .eql ?_
              refine .condT (by first | assumption | omega) ?_
              refine .fieldAddr ?_
              refine .load1 ‹_› (.s .z) (by rfl) ?_
              refine .lss ?_
              refine .gTF (by rfl) (by first | assumption | omega) ?_
              refine .gTF (by rfl) (by first | assumption | omega) ?_
              refine .gTF (by rfl) (by first | assumption | omega) ?_
              refine .pickT (by first | assumption | omega) ?_
              refine .condtt ?_
              refine .indexA (j := 0) (by rfl) (by decide) ?_
              refine .load1 ‹_› .z (by rfl) ?_
              refine .shrU (by omega) ?_
              refine .and1U (by omega) ?_
              refine .bitT ?_
              refine .ret1 (by rfl) ?_
              intro m hobj
              exact ⟨rfl, (h.objs hobj).tail.tail⟩
            · rw [if_neg hv]
              obtain ⟨v, hve⟩ : ∃ v : Nat, a.v = v := ⟨a.v.toNat, by omega⟩
              have hv6 : v < 6 := by omega
              have hvn : a.v.toNat = v := by omega
              have b1 := or_lt hc hv6
              have b2 := andNot_lt (v := v) hc
              have p1 : 2 ^ v < 64 := Nat.pow_lt_pow_right (n := 6) (by decide) hv6
              have q1 := shr_lt (c := c ||| 2 ^ v) ht
              have q2 := shr_lt (c := andNot c (2 ^ v)) ht
              rw [hvn, ← hf.or hc hv6, ← hf.not hc, Bool.or_comm]
              cases hb : t.testBit (c ||| 2 ^ v) with
              | true =>
                refine .new ‹_› ?_
                intro nw m h
                refine .storeA ‹_› .z (by rfl) (by rfl) ?_
                intro m h
                refine .fieldAddr ?_
                refine .load1 ‹_› (.s .z) (by rfl) ?_
                refine .eql ?_
                refine .condF (by first | assumption | omega) ?_
                refine .eql ?_
                refine .condF (by first | assumption | omega) ?_
                refine .eql ?_
                refine .condF (by first | assumption | omega) ?_
                refine .eql ?_
                refine .condF (by first | assumption | omega) ?_
                refine .eql ?_
                refine .condT (by first | assumption | omega) ?_
                refine .fieldAddr ?_
                refine .load1 ‹_› (.s .z) (by rfl) ?_
                refine .lss ?_
                refine .gF (by rfl) (by first | assumption | omega) ?_
                refine .fieldAddr ?_
                refine .gF (by rfl) (by first | assumption | omega) ?_
                refine .load1 ‹_› (.s .z) (by rfl) ?_
                refine .gF (by rfl) (by first | assumption | omega) ?_
                refine .gtr ?_
                refine .pickF (by first | assumption | omega) ?_
                refine .condF (by first | assumption | omega) ?_
                refine .indexA (j := 0) (by rfl) (by decide) ?_
                refine .load1 ‹_› .z (by rfl) ?_
                refine .fieldAddr ?_
                refine .load1 ‹_› (.s .z) (by rfl) ?_
                refine shl1Z hve (by omega) ?_
                refine .orI (by omega) (by omega) ?_
                refine .shrU (by omega) ?_
                refine .and1U (by omega) ?_
                refine .bitT ?_; rw [hb]
                refine .gtf ?_
                refine .gtf ?_
                refine .gtf ?_
                refine .gtf ?_
                refine .gtf ?_
                refine .gtf ?_
                refine .gtf ?_
                refine .gtf ?_
                refine .gtf ?_
                refine .gtf ?_
                refine .picktt ?_
                refine .ret1 (by rfl) ?_
                intro m hobj
                exact ⟨rfl, (h.objs hobj).tail.tail⟩
              | false =>
                refine .new ‹_› ?_
                intro nw m h
                refine .storeA ‹_› .z (by rfl) (by rfl) ?_
                intro m h
                refine .fieldAddr ?_
                refine .load1 ‹_› (.s .z) (by rfl) ?_
                refine .eql ?_
                refine .condF (by first | assumption | omega) ?_
                refine .eql ?_
                refine .condF (by first | assumption | omega) ?_
                refine .eql ?_
                refine .condF (by first | assumption | omega) ?_
                refine .eql ?_
                refine .condF (by first | assumption | omega) ?_
                refine .eql ?_
                refine .condT (by first | assumption | omega) ?_
                refine .fieldAddr ?_
                refine .load1 ‹_› (.s .z) (by rfl) ?_
                refine .lss ?_
                refine .gF (by rfl) (by first | assumption | omega) ?_
                refine .fieldAddr ?_
                refine .gF (by rfl) (by first | assumption | omega) ?_
                refine .load1 ‹_› (.s .z) (by rfl) ?_
                refine .gF (by rfl) (by first | assumption | omega) ?_
                refine .gtr ?_
                refine .pickF (by first | assumption | omega) ?_
                refine .condF (by first | assumption | omega) ?_
                refine .indexA (j := 0) (by rfl) (by decide) ?_
                refine .load1 ‹_› .z (by rfl) ?_
                refine .fieldAddr ?_
                refine .load1 ‹_› (.s .z) (by rfl) ?_
                refine shl1Z hve (by omega) ?_
                refine .orI (by omega) (by omega) ?_
                refine .shrU (by omega) ?_
                refine .and1U (by omega) ?_
                refine .bitT ?_; rw [hb]
                refine .gff ?_
                refine .indexA (j := 0) (by rfl) (by decide) ?_
                refine .gff ?_
                refine .load1 ‹_› .z (by rfl) ?_
                refine .gff ?_
                refine .gff ?_
                refine .fieldAddr ?_
                refine .gff ?_
                refine .load1 ‹_› (.s .z) (by rfl) ?_
                refine .gff ?_
                refine shl1Z hve (by omega) ?_
                refine .gff ?_
                refine .andNotI (by omega) (by omega) ?_
                refine .gff ?_
                refine .shrU (by omega) ?_
                refine .gff ?_
                refine .and1U (by omega) ?_
                refine .gff ?_
                refine .bitT ?_
                refine .pickff ?_
                refine .ret1 (by rfl) ?_
                intro m hobj
                exact ⟨rfl, (h.objs hobj).tail.tail⟩
          · by_cases h5 : a.d = 5
            · rw [actS, if_neg h0, if_neg h1, if_neg h2, if_neg h3, if_neg h4, if_pos h5]
              refine .new ‹_› ?_
              intro nw m h
              refine .storeA ‹_› .z (by rfl) (by rfl) ?_
              intro m h
              refine .fieldAddr ?_
              refine .load1 ‹_› (.s .z) (by rfl) ?_
              refine .eql ?_
              refine .condF (by first | assumption | omega) ?_
              refine .eql ?_
              refine .condF (by first | assumption | omega) ?_
              refine .eql ?_
              refine .condF (by first | assumption | omega) ?_
              refine .eql ?_
              refine .condF (by first | assumption | omega) ?_
              refine .eql ?_
              refine .condF (by first | assumption | omega) ?_
              refine .eql ?_
              refine .condT (by first | assumption | omega) ?_
              refine .loadA ‹_› (.s .z) (by rfl) ?_
              refine .indexA (j := 0) (by rfl) (by decide) ?_
              refine .load1 ‹_› .z (by rfl) ?_
              refine Tells.call rfl (call40 (a := a) ⟨_, rfl, ⟨k1, rfl, hk1⟩⟩ hf hc h) ?_
              rintro _ _ ⟨rfl, h⟩
              refine .ret1 (by rfl) ?_
              intro m hobj
              exact ⟨rfl, (h.objs hobj).tail.tail⟩
            · rw [actS, if_neg h0, if_neg h1, if_neg h2, if_neg h3, if_neg h4, if_neg h5]
              refine .new ‹_› ?_
              intro nw m h
              refine .storeA ‹_› .z (by rfl) (by rfl) ?_
              intro m h
              refine .fieldAddr ?_
              refine .load1 ‹_› (.s .z) (by rfl) ?_
              refine .eql ?_
              refine .condF (by first | assumption | omega) ?_
              refine .eql ?_
              refine .condF (by first | assumption | omega) ?_
              refine .eql ?_
              refine .condF (by first | assumption | omega) ?_
              refine .eql ?_
              refine .condF (by first | assumption | omega) ?_
              refine .eql ?_
              refine .condF (by first | assumption | omega) ?_
              refine .eql ?_
              refine .condF (by first | assumption | omega) ?_
              refine .fieldAddr ?_
              refine .load1 ‹_› (.s .z) (by rfl) ?_
              refine .gtr ?_
              refine .ret1 (by rfl) ?_
              intro m hobj
              exact ⟨rfl, (h.objs hobj).tail.tail⟩
end Go.Proofs.P16
