/- The walk through what acts make. -/
import Derived.Test.YtdddcofggemnkaaDoorP16W15
namespace Go.Proofs.P16
set_option linter.all false
open Go Go.Am Go.Bdd
attribute [local irreducible] loadK storeK newK boxK tipK makeMapK buildTK buildK buildSliceK nilK binK unK condK convK eqvK pickK gK gDK vK extractK fieldK lookupK mapUpdateK appendK min2K max2K retK makeSliceK freezeK bytesK loopV blkK stayK sameK rangeK callK aFieldAddr aIndexAddr aIndexAddrA aLen aIndex aSlice

/-- Functions and their tables. -/
structure Fam (fv : List AV) (ts : List Nat) (fs : List BF) : Prop where
  l1 : fv.length = fs.length
  l2 : ts.length = fs.length
  ok : ∀ (i : Nat) (f : BF), fs[i]? = some f → ∃ x t, fv[i]? = some x ∧ IsFn x f ∧ ts[i]? = some t ∧ Tt t f

def pickF (fs : List BF) (a : Int) : BF := (fs[placeN a fs.length]?).getD ⟨[], false⟩
theorem Fam.pick {fv : List AV} {ts : List Nat} {fs : List BF} (h : Fam fv ts fs) {a : Int} : Tt (pickN ts a) (pickF fs a) := by
  simp only [pickN, pickF, h.l2]
  cases hf : fs[placeN a fs.length]? with
  | some f =>
    obtain ⟨x, t, _, _, h3, h4⟩ := h.ok _ _ hf
    rw [h3]; exact h4
  | none =>
    have : ts[placeN a fs.length]? = none := by
      rw [List.getElem?_eq_none_iff] at hf ⊢
      rw [h.l2]; exact hf
    rw [this]; exact tt_zero
theorem Fam.snoc {fv : List AV} {ts : List Nat} {fs : List BF} (h : Fam fv ts fs) {x : AV} {t : Nat} {f : BF} (hx : IsFn x f) (ht : Tt t f) : Fam (fv ++ [x]) (ts ++ [t]) (fs ++ [f]) := by
  refine ⟨by simp [h.l1], by simp [h.l2], fun i g hg => ?_⟩
  by_cases hi : i < fs.length
  · rw [List.getElem?_append_left hi] at hg
    obtain ⟨y, u, h1, h2, h3, h4⟩ := h.ok i g hg
    exact ⟨y, u, by rw [List.getElem?_append_left (by rw [h.l1]; exact hi)]; exact h1, h2, by rw [List.getElem?_append_left (by rw [h.l2]; exact hi)]; exact h3, h4⟩
  · have hl := (List.getElem?_eq_some_iff.1 hg).1
    have he : i = fs.length := by simp at hl; omega
    subst he
    rw [List.getElem?_append_right (Nat.le_refl _), Nat.sub_self] at hg
    cases hg
    refine ⟨x, t, ?_, hx, ?_, ht⟩
    · rw [← h.l1, List.getElem?_append_right (Nat.le_refl _), Nat.sub_self]; rfl
    · rw [← h.l2, List.getElem?_append_right (Nat.le_refl _), Nat.sub_self]; rfl

set_option maxHeartbeats 8000000 in
theorem tail16 {P : AV → Mem → Prop} {n : Nat} {kx : KX} {L : List AV → Mem → Rho} {m : Mem} {R : Heap} {lv : AV} {fv : List AV} {ts : List Nat} {fs : List BF} {i tf tt xp fp : Nat} {a : ActR} {k1 : Nat} {q : BF} {k2 : Nat} (hn : 64 < n)
    (hfam : Fam fv ts fs) (hlen : fs.length < 100) (hi : i < 100) (hk1 : k1 = 1 ∨ a.l = []) (hv5 : a.v ≤ 5) (hll : a.l.length ≤ 16) (hq : Gd 6 q) (hqs : ∀ ρ, q.sem ρ = actS a (pickF fs a.a) (pickF fs a.b) ρ) 
    (h : Sep m ((fp, .row 0 [.list .shared k2 (q.nodes.map encNd), .bool q.one]) :: (xp, .row 0 [.int .i64 a.d, .int .i64 a.v, .int .i64 a.a, .int .i64 a.b, .list .shared k1 (a.l.map vZ)]) :: (tf, .tip fs.length) :: (tt, .tip fs.length) :: R))
    (hL : ∀ t m', Tt t q → Sep m' ((tf, .tip (fs.length + 1)) :: (tt, .tip (fs.length + 1)) :: R) → Tells (L [lv, .list (.own tf) 2 (fv ++ [.agg [.list .shared k2 (q.nodes.map encNd), .bool q.one]]), .list (.own tt) 1 ((ts ++ [t]).map vU), vI (i + 1)] m') P) :
    Tells (S4_7 (Am.Call T) n (fun e m' => keepK e [0, 5, 6, 7] fun vs' => L vs' m') kx lv (.list (.own tf) 2 fv) (.list (.own tt) 1 (ts.map vU)) (vI i) (.ptr xp 0 0) (.ptr fp 0 0) m) P := by
  have hfp := hfam.pick (a := a.a)
  have hgp := hfam.pick (a := a.b)
  have h1 := hfam.l1
  have h2 := hfam.l2
  unfold S4_7 G4_7
  refine Tells.loop (fun j vs m => ∃ c t : Nat, c + j = 64 ∧ t < 18446744073709551616 ∧ (∀ d, d < 64 → t.testBit d = (decide (d < c) && actS a (pickF fs a.a) (pickF fs a.b) (chR d))) ∧
    vs = [lv, .list (.own tf) 2 fv, .list (.own tt) 1 (ts.map vU), vI i, .ptr xp 0 0, .ptr fp 0 0, vU t, vI c] ∧
    Sep m ((fp, .row 0 [.list .shared k2 (q.nodes.map encNd), .bool q.one]) :: (xp, .row 0 [.int .i64 a.d, .int .i64 a.v, .int .i64 a.a, .int .i64 a.b, .list .shared k1 (a.l.map vZ)]) :: (tf, .tip fs.length) :: (tt, .tip fs.length) :: R)) ?_ (i := 64) hn ?_
  · rintro j vs m L2 ⟨c, t, j1, j2, j3, rfl, h⟩ hL2
    by_cases hc : c < 64
    · have p2 := pow_lt64 hc
      refine .lss ?_
      refine .condT (by first | assumption | omega) ?_
      refine .loadA ‹_› (.s .z) (by rfl) ?_
      refine Tells.call rfl (call20 (a := a) ⟨_, rfl, ⟨k1, rfl, hk1⟩⟩ ⟨1, rfl, .inl rfl⟩ (by omega) hfp hgp hc hv5 hll h) ?_
      rintro _ _ ⟨rfl, h⟩
      have hnext : ∀ {u : Nat}, (∀ d, d < 64 → d ≠ c → u.testBit d = t.testBit d) → u.testBit c = actS a (pickF fs a.a) (pickF fs a.b) (chR c) → ∀ d, d < 64 → u.testBit d = (decide (d < c + 1) && actS a (pickF fs a.a) (pickF fs a.b) (chR d)) := fun {u} e1 e2 d hd => by
        by_cases e : d = c
        · subst e; rw [e2, decide_eq_true (by omega), Bool.true_and]
        · rw [e1 d hd e, j3 d hd]
          congr 1
          by_cases e3 : d < c
          · rw [decide_eq_true e3, decide_eq_true (by omega)]
          · rw [decide_eq_false e3, decide_eq_false (by omega)]
      have htc := j3 c hc
      rw [decide_eq_false (by omega), Bool.false_and] at htc
      cases hb : actS a (pickF fs a.a) (pickF fs a.b) (chR c) with
      | true =>
        refine .condtt ?_
        refine .shl1U hc ?_
        refine .orU j2 p2 ?_
        refine .add (by rfl) (by omega) ?_
        refine hL2 (j - 1) _ _ (by omega) ⟨c + 1, t ||| 2 ^ c, by omega, or_lt64 (n := 64) j2 p2, hnext (fun d hd e => ?_) ?_, rfl, h⟩
        · rw [Nat.testBit_or, Nat.testBit_two_pow_of_ne (fun e3 => e e3.symm), Bool.or_false]
        · rw [Nat.testBit_or, Nat.testBit_two_pow_self, Bool.or_true, hb]
      | false =>
        refine .condff ?_
        refine .add (by rfl) (by omega) ?_
        exact hL2 (j - 1) _ _ (by omega) ⟨c + 1, t, by omega, j2, hnext (fun _ _ _ => rfl) (by rw [htc, hb]), rfl, h⟩
    · have hc64 : c = 64 := by omega
      subst hc64
      have htt : Tt t q := ⟨hq, j2, fun d hd => by rw [j3 d hd, decide_eq_true hd, Bool.true_and, hqs]⟩
      have hm : (ts.map vU).length = ts.length := List.length_map _
      refine .lss ?_
      refine .condff ?_
      refine .blk ?_
      refine .loadA ‹_› .z (by rfl) ?_
      refine .bsA (by rfl) (by rfl) (by rfl) (by decide) (by decide) ?_
      refine .append1 h (.s (.s .z)) (by omega) (by simp only [room]; omega) (by decide) (by rfl) (by rfl) ?_
      intro m h
      refine .bs1 ?_
      refine .append1 h (.s (.s (.s .z))) (by omega) (by simp only [room]; omega) (by decide) (by rfl) (by rfl) ?_
      intro m h
      refine .add (by rfl) (by omega) ?_
      have hl := hL t _ htt h.tail.tail
      have e : (ts ++ [t]).map vU = ts.map vU ++ [vU t] := by simp
      rw [e] at hl
      exact hl
  · exact ⟨0, 0, by omega, by decide, fun d hd => by simp, rfl, h⟩

set_option maxHeartbeats 8000000 in
theorem mid16 {P : AV → Mem → Prop} {n : Nat} {kx : KX} {L : List AV → Mem → Rho} {m : Mem} {R : Heap} {lv : AV} {fv : List AV} {ts : List Nat} {fs : List BF} {i tf tt xp ap bp : Nat} {a : ActR} {k1 ka kb : Nat} {ga gb : Tag} {f g : BF} (hn : 64 < n)
    (hfam : Fam fv ts fs) (hlen : fs.length < 100) (hi : i < 100) (hk1 : k1 = 1 ∨ a.l = []) (hv5 : a.v ≤ 5) (hll : a.l.length ≤ 8) (hl5 : ∀ y ∈ a.l, y < 6) (hfe : f = pickF fs a.a) (hge : g = pickF fs a.b) (hf : Gd 6 f) (hg : Gd 6 g) (hka : ka = 3 ∨ f.nodes = []) (hkb : kb = 3 ∨ g.nodes = [])
    (h : Sep m ((bp, .row 0 [.list gb kb (g.nodes.map encNd), .bool g.one]) :: (ap, .row 0 [.list ga ka (f.nodes.map encNd), .bool f.one]) :: (xp, .row 0 [.int .i64 a.d, .int .i64 a.v, .int .i64 a.a, .int .i64 a.b, .list .shared k1 (a.l.map vZ)]) :: (tf, .tip fs.length) :: (tt, .tip fs.length) :: R))
    (hL : ∀ q fx t m', IsFn fx q → Tt t q → Sep m' ((tf, .tip (fs.length + 1)) :: (tt, .tip (fs.length + 1)) :: R) → Tells (L [lv, .list (.own tf) 2 (fv ++ [fx]), .list (.own tt) 1 ((ts ++ [t]).map vU), vI (i + 1)] m') P) :
    Tells (S4_8 (Am.Call T) n (fun e m' => keepK e [0, 5, 6, 7] fun vs' => L vs' m') kx lv (.list (.own tf) 2 fv) (.list (.own tt) 1 (ts.map vU)) (vI i) (.ptr xp 0 0) (.ptr ap 0 0) (.ptr bp 0 0) m) P := by
  have fin : ∀ {q : BF} {kq fp : Nat} {m : Mem}, Gd 6 q → (∀ ρ, q.sem ρ = actS a f g ρ) → (kq = 3 ∨ q.nodes = []) → Sep m ((fp, .row 0 [.list .shared kq (q.nodes.map encNd), .bool q.one]) :: (xp, .row 0 [.int .i64 a.d, .int .i64 a.v, .int .i64 a.a, .int .i64 a.b, .list .shared k1 (a.l.map vZ)]) :: (tf, .tip fs.length) :: (tt, .tip fs.length) :: R) →
      Tells (S4_7 (Am.Call T) n (fun e m' => keepK e [0, 5, 6, 7] fun vs' => L vs' m') kx lv (.list (.own tf) 2 fv) (.list (.own tt) 1 (ts.map vU)) (vI i) (.ptr xp 0 0) (.ptr fp 0 0) m) P := fun {q kq fp m} q1 q2 q3 q4 =>
    tail16 hn hfam hlen hi hk1 hv5 (by omega) q1 (by rw [← hfe, ← hge]; exact q2) q4 fun t m' ht h => hL q _ t m' ⟨kq, rfl, q3⟩ ht h
  unfold S4_8 G4_8
  refine .fieldAddr ?_
  refine .load1 ‹_› (.s (.s .z)) (by rfl) ?_
  refine .gtr ?_
  refine Tells.call rfl (call13 h) ?_
  rintro _ _ ⟨⟨k0, rfl, hk0⟩, h⟩
  by_cases h0 : a.d = 0
  · refine .new ‹_› ?_
    intro nw m h
    refine .storeA ‹_› .z (by rfl) (by rfl) ?_
    intro m h
    refine .fieldAddr ?_
    refine .load1 ‹_› (.s (.s (.s .z))) (by rfl) ?_
    refine .eql ?_
    refine .condT (by first | assumption | omega) ?_
    refine .fieldAddr ?_
    refine .load1 ‹_› (.s (.s (.s .z))) (by rfl) ?_
    refine Tells.call rfl (call14 h) ?_
    rintro _ _ ⟨⟨kq, rfl, hkq⟩, h⟩
    refine .storeA ‹_› .z (by rfl) (by rfl) ?_
    intro m h
    exact fin (gd_varB (by omega) (by omega)) (fun ρ => by rw [sem_varB, actS, if_pos h0]) hkq (h.mvs [0, 2, 2]).tail.tail
  · by_cases h1 : a.d = 1
    · refine .new ‹_› ?_
      intro nw m h
      refine .storeA ‹_› .z (by rfl) (by rfl) ?_
      intro m h
      refine .fieldAddr ?_
      refine .load1 ‹_› (.s (.s (.s .z))) (by rfl) ?_
      refine .eql ?_
      refine .condF (by first | assumption | omega) ?_
      refine .eql ?_
      refine .condT (by first | assumption | omega) ?_
      refine .fieldAddr ?_
      refine .load1 ‹_› (.s (.s (.s .z))) (by rfl) ?_
      refine .fieldAddr ?_
      refine .load1 ‹_› (.s (.s (.s .z))) (by rfl) ?_
      refine Tells.call rfl (call15 (K := 6) (by omega) (zs := a.l) ⟨k1, rfl, hk1⟩ (by omega) (by omega) hl5 h) ?_
      rintro _ _ ⟨q, ⟨kq, rfl, hkq⟩, h, q1, q2⟩
      refine .storeA ‹_› .z (by rfl) (by rfl) ?_
      intro m h
      exact fin q1 (fun ρ => by rw [tk (by omega) q2, actS, if_neg h0, if_pos h1]) hkq (h.mvs [0, 2, 2]).tail.tail
    · by_cases h2 : a.d = 2
      · refine .new ‹_› ?_
        intro nw m h
        refine .storeA ‹_› .z (by rfl) (by rfl) ?_
        intro m h
        refine .fieldAddr ?_
        refine .load1 ‹_› (.s (.s (.s .z))) (by rfl) ?_
        refine .eql ?_
        refine .condF (by first | assumption | omega) ?_
        refine .eql ?_
        refine .condF (by first | assumption | omega) ?_
        refine .eql ?_
        refine .condT (by first | assumption | omega) ?_
        refine .loadA ‹_› (.s (.s .z)) (by rfl) ?_
        refine .loadA ‹_› (.s .z) (by rfl) ?_
        refine Tells.call rfl (call16 (K := 6) (by omega) ⟨ka, rfl, hka⟩ ⟨kb, rfl, hkb⟩ hf hg h) ?_
        rintro _ _ ⟨q, ⟨kq, rfl, hkq⟩, h, q1, q2⟩
        refine .storeA ‹_› .z (by rfl) (by rfl) ?_
        intro m h
        exact fin q1 (fun ρ => by rw [tk (by omega) q2, actS, if_neg h0, if_neg h1, if_pos h2]) hkq (h.mvs [0, 2, 2]).tail.tail
      · by_cases h3 : a.d = 3
        · refine .new ‹_› ?_
          intro nw m h
          refine .storeA ‹_› .z (by rfl) (by rfl) ?_
          intro m h
          refine .fieldAddr ?_
          refine .load1 ‹_› (.s (.s (.s .z))) (by rfl) ?_
          refine .eql ?_
          refine .condF (by first | assumption | omega) ?_
          refine .eql ?_
          refine .condF (by first | assumption | omega) ?_
          refine .eql ?_
          refine .condF (by first | assumption | omega) ?_
          refine .eql ?_
          refine .condT (by first | assumption | omega) ?_
          refine .loadA ‹_› (.s (.s .z)) (by rfl) ?_
          refine .loadA ‹_› (.s .z) (by rfl) ?_
          refine Tells.call rfl (call17 (K := 6) (by omega) ⟨ka, rfl, hka⟩ ⟨kb, rfl, hkb⟩ hf hg h) ?_
          rintro _ _ ⟨q, ⟨kq, rfl, hkq⟩, h, q1, q2⟩
          refine .storeA ‹_› .z (by rfl) (by rfl) ?_
          intro m h
          exact fin q1 (fun ρ => by rw [tk (by omega) q2, actS, if_neg h0, if_neg h1, if_neg h2, if_pos h3]) hkq (h.mvs [0, 2, 2]).tail.tail
        · by_cases h4 : a.d = 4
          · refine .new ‹_› ?_
            intro nw m h
            refine .storeA ‹_› .z (by rfl) (by rfl) ?_
            intro m h
            refine .fieldAddr ?_
            refine .load1 ‹_› (.s (.s (.s .z))) (by rfl) ?_
            refine .eql ?_
            refine .condF (by first | assumption | omega) ?_
            refine .eql ?_
            refine .condF (by first | assumption | omega) ?_
            refine .eql ?_
            refine .condF (by first | assumption | omega) ?_
            refine .eql ?_
            refine .condF (by first | assumption | omega) ?_
            refine .eql ?_
            refine .condT (by first | assumption | omega) ?_
            refine .loadA ‹_› (.s (.s .z)) (by rfl) ?_
            refine .fieldAddr ?_
            refine .load1 ‹_› (.s (.s (.s .z))) (by rfl) ?_
            refine Tells.call rfl (call18 (K := 6) (by omega) ⟨ka, rfl, hka⟩ hf (by omega) h) ?_
            rintro _ _ ⟨q, ⟨kq, rfl, hkq⟩, h, q1, q2⟩
            refine .storeA ‹_› .z (by rfl) (by rfl) ?_
            intro m h
            exact fin q1 (fun ρ => by rw [tk (by omega) q2, actS, if_neg h0, if_neg h1, if_neg h2, if_neg h3, if_pos h4]) hkq (h.mvs [0, 2, 2]).tail.tail
          · by_cases h5 : a.d = 5
            · refine .new ‹_› ?_
              intro nw m h
              refine .storeA ‹_› .z (by rfl) (by rfl) ?_
              intro m h
              refine .fieldAddr ?_
              refine .load1 ‹_› (.s (.s (.s .z))) (by rfl) ?_
              refine .eql ?_
              refine .condF (by first | assumption | omega) ?_
              refine .eql ?_
              refine .condF (by first | assumption | omega) ?_
              refine .eql ?_
              refine .condF (by first | assumption | omega) ?_
              refine .eql ?_
              refine .condF (by first | assumption | omega) ?_
              refine .eql ?_
              refine .condF (by first | assumption | omega) ?_
              refine .eql ?_
              refine .condT (by first | assumption | omega) ?_
              refine .loadA ‹_› (.s (.s .z)) (by rfl) ?_
              refine .fieldAddr ?_
              refine .load1 ‹_› (.s (.s (.s .z))) (by rfl) ?_
              refine Tells.call rfl (call19 ⟨ka, rfl, hka⟩ hf ⟨k1, rfl, hk1⟩ hl5 (by omega) h) ?_
              rintro _ _ ⟨q, ⟨kq, rfl, hkq⟩, h, q1, q2⟩
              refine .storeA ‹_› .z (by rfl) (by rfl) ?_
              intro m h
              exact fin q1 (fun ρ => by rw [tk (by omega) q2, actS, if_neg h0, if_neg h1, if_neg h2, if_neg h3, if_neg h4, if_pos h5]) hkq (h.mvs [0, 2, 2]).tail.tail
            · refine .new ‹_› ?_
              intro nw m h
              refine .storeA ‹_› .z (by rfl) (by rfl) ?_
              intro m h
              refine .fieldAddr ?_
              refine .load1 ‹_› (.s (.s (.s .z))) (by rfl) ?_
              refine .eql ?_
              refine .condF (by first | assumption | omega) ?_
              refine .eql ?_
              refine .condF (by first | assumption | omega) ?_
              refine .eql ?_
              refine .condF (by first | assumption | omega) ?_
              refine .eql ?_
              refine .condF (by first | assumption | omega) ?_
              refine .eql ?_
              refine .condF (by first | assumption | omega) ?_
              refine .eql ?_
              refine .condF (by first | assumption | omega) ?_
              refine fin (q := ⟨[], decide (0 < a.v)⟩) gd_const (fun ρ => ?_) (.inr rfl) (h.mvs [0, 2, 2]).tail.tail
              rw [sem_const, actS, if_neg h0, if_neg h1, if_neg h2, if_neg h3, if_neg h4, if_neg h5]
end Go.Proofs.P16
