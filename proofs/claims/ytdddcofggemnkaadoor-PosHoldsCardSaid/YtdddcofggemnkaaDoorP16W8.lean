/- The walk through the functions: what one is for a choice; whether two are one; whether a variable follows. -/
import Derived.Test.YtdddcofggemnkaaDoorP16W6
import Derived.Test.YtdddcofggemnkaaDoorAmW
namespace Go.Proofs.P16
set_option linter.all false
open Go Go.Am Go.Bdd
attribute [local irreducible] loadK storeK newK boxK tipK makeMapK buildTK buildK buildSliceK nilK binK unK condK convK eqvK pickK gK gDK vK extractK fieldK lookupK mapUpdateK appendK min2K max2K retK makeSliceK freezeK bytesK loopV blkK stayK sameK rangeK callK aFieldAddr aIndexAddr aIndexAddrA aLen aIndex aSlice

/-- The choice of a row of numbers. -/
def rowR (zs : List Int) : Nat → Bool := fun n => decide ((n : Int) ∈ zs)

theorem call8 {K : Nat} {m : Mem} {fr : Heap} {v w : AV} {f : BF} {zs : List Int} (hv : IsFn v f) (hf : Gd K f) (hw : IsInts w zs) (hl : zs.length < 1152921504606846976) (hs : Sep m fr) :
    Tells (Am.Call T 8 [v, w] m) fun x m' => x = .bool (f.sem (rowR zs)) ∧ Sep m' fr := by
  obtain ⟨k, rfl, hk⟩ := hv
  obtain ⟨k2, rfl, hk2⟩ := hw
  have hlen := hf.len
  refine Tells.fn (f.nodes.length + 2) rfl F8_ok rfl ?_
  show Tells (S8 (Am.Call T) _ m (.agg [.list .shared k (f.nodes.map encNd), .bool f.one]) (.list .shared k2 (zs.map vZ))) _
  have h : Sep ⟨m.objs, none⟩ fr := hs.objs rfl
  unfold S8 G8
  by_cases h0 : f.nodes.length = 0
  · have hn0 : f.nodes = [] := List.eq_nil_of_length_eq_zero h0
    have hml : (f.nodes.map encNd).length = 0 := by rw [List.length_map, h0]
    refine .boxA ‹_› ?_
    intro nw m h
    refine .fieldAddr ?_
    refine .load1 ‹_› .z (by rfl) ?_
    refine .lenL ?_
    refine .eql ?_
    refine .condT (by first | assumption | omega) ?_
    refine .fieldAddr ?_
    refine .load1 ‹_› .z (by rfl) ?_
    refine .ret1 (by rfl) ?_
    intro m hobj
    exact ⟨by simp only [BF.sem, hn0, if_true], (h.objs hobj).tail⟩
  · have hn0 : f.nodes ≠ [] := fun e => h0 (by rw [e]; rfl)
    have hk : k = 3 := hk.resolve_right hn0
    subst hk
    obtain ⟨h2, _⟩ := hf.facts hn0
    have hml : (f.nodes.map encNd).length = f.nodes.length := List.length_map _
    have hsem : f.sem (rowR zs) = sem f.nodes (f.nodes.length + 1) (rowR zs) := by simp only [BF.sem, hn0, if_false]
    rw [hsem]
    refine .boxA ‹_› ?_
    intro nw m h
    refine .fieldAddr ?_
    refine .load1 ‹_› .z (by rfl) ?_
    refine .lenL ?_
    refine .eql ?_
    refine .condF (by first | assumption | omega) ?_
    refine .fieldAddr ?_
    refine .load1 ‹_› .z (by rfl) ?_
    refine .lenL ?_
    refine .add (c := ((f.nodes.length + 1 : Nat) : Int)) (by rw [hml]; rfl) (by omega) ?_
    refine Tells.loop (fun i vs m => i < f.nodes.length + 2 ∧ sem f.nodes i (rowR zs) = sem f.nodes (f.nodes.length + 1) (rowR zs) ∧ vs = [.list .shared k2 (zs.map vZ), .ptr nw 0 0, vI i] ∧ Sep m ((nw, .row 0 [.list .shared 3 (f.nodes.map encNd), .bool f.one]) :: fr)) ?_ (i := f.nodes.length + 1) (by omega) ?_
    · rintro i vs m L ⟨i1, i2, rfl, h⟩ hL
      by_cases hi : 2 ≤ i
      · obtain ⟨n, hn⟩ := h2.tb.wf.at hi i1
        have hg : (f.nodes.map encNd)[i - 2]? = some (encNd n) := by rw [List.getElem?_map, hn.get]; rfl
        have n1 := hn.lo
        have n2 := hn.hi
        have n3 := hn.sem (rowR zs)
        refine .geq ?_
        refine .condT (by first | assumption | omega) ?_
        refine .fieldAddr ?_
        refine .load1 ‹_› .z (by rfl) ?_
        refine .sub (by rfl) (by omega) ?_
        refine .indexL (j := i - 2) (by omega) hg ?_
        refine .loadCA (by rfl) ?_
        refine .new ‹_› ?_
        intro nw m h
        refine .storeA ‹_› .z (by rfl) (by rfl) ?_
        intro m h
        refine .fieldAddr ?_
        refine .load1 ‹_› .z (by rfl) ?_
        refine .fieldAddr ?_
        refine .load1 ‹_› .z (by rfl) ?_
        refine Tells.call rfl (call25 ⟨k2, rfl, hk2⟩ hl h) ?_
        rintro _ m5 ⟨rfl, h⟩
        by_cases hm : (n.v : Int) ∈ zs
        · refine .condT (by first | assumption | omega) ?_
          refine .fieldAddr ?_
          refine .load1 ‹_› .z (by rfl) ?_
          refine hL n.hi _ _ n2 ⟨by omega, ?_, rfl, h.tail⟩
          rw [← i2, n3, if_pos (by simp [rowR, hm])]
        · refine .condF (by first | assumption | omega) ?_
          refine hL n.lo _ _ n1 ⟨by omega, ?_, rfl, h.tail⟩
          rw [← i2, n3, if_neg (by simp [rowR, hm])]
      · refine .geq ?_
        refine .condF (by first | assumption | omega) ?_
        refine .blk ?_
        refine .eql ?_
        refine .ret1 (by rfl) ?_
        intro m hobj
        refine ⟨?_, (h.objs hobj).tail⟩
        rw [← i2]
        rcases (show i = 0 ∨ i = 1 by omega) with rfl | rfl
        · rw [sem_zero]; rfl
        · rw [sem_one]; rfl
    · exact ⟨by omega, rfl, rfl, h⟩

theorem call34 {m : Mem} {fr : Heap} {k1 k2 : Nat} {xs ys : List Nd} (h1 : k1 = 3 ∨ xs = []) (h2 : k2 = 3 ∨ ys = []) (hl : xs.length ≤ 256) (hs : Sep m fr) :
    Tells (Am.Call T 34 [.list .shared k1 (xs.map encNd), .list .shared k2 (ys.map encNd)] m) fun x m' => x = .bool (decide (xs = ys)) ∧ Sep m' fr := by
  refine Tells.fn (xs.length + 1) rfl F34_ok rfl ?_
  show Tells (S34 (Am.Call T) _ m (.list .shared k1 (xs.map encNd)) (.list .shared k2 (ys.map encNd))) _
  have h : Sep ⟨m.objs, none⟩ fr := hs.objs rfl
  unfold S34 G34
  have l1 : (xs.map encNd).length = xs.length := List.length_map _
  have l2 : (ys.map encNd).length = ys.length := List.length_map _
  by_cases hne : xs.length = ys.length
  · refine .lenL ?_
    refine .lenL ?_
    refine .neq ?_
    refine .condF (by first | assumption | omega) ?_
    refine .lenL ?_
    refine Tells.loop (fun i vs m => ∃ j, j + i = xs.length ∧ xs.take j = ys.take j ∧ vs = [.list .shared k1 (xs.map encNd), .list .shared k2 (ys.map encNd), vI (xs.map encNd).length, vI j] ∧ Sep m fr) ?_ (i := xs.length) (by omega) ?_
    · rintro i vs m L ⟨j, i1, i2, rfl, h⟩ hL
      by_cases hj : j < xs.length
      · have e1 : k1 = 3 := h1.resolve_right (by rintro rfl; simp at hj)
        have e2 : k2 = 3 := h2.resolve_right (by rintro rfl; rw [List.length_nil] at hne; omega)
        subst e1 e2
        obtain ⟨x, hx⟩ : ∃ x, xs[j]? = some x := ⟨_, List.getElem?_eq_getElem hj⟩
        obtain ⟨y, hy⟩ : ∃ y, ys[j]? = some y := ⟨_, List.getElem?_eq_getElem (by omega)⟩
        have hgx : (xs.map encNd)[j]? = some (encNd x) := by rw [List.getElem?_map, hx]; rfl
        have hgy : (ys.map encNd)[j]? = some (encNd y) := by rw [List.getElem?_map, hy]; rfl
        by_cases he : x = y
        · refine .lss ?_
          refine .condT (by first | assumption | omega) ?_
          refine .indexL (j := j) (by rfl) hgx ?_
          refine .loadCA (by rfl) ?_
          refine .indexL (j := j) (by rfl) hgy ?_
          refine .loadCA (by rfl) ?_
          refine .eqv (t := true) (by rw [eqv_nd, decide_eq_true he]) ?_
          refine .condff ?_
          refine .add (by rfl) (by omega) ?_
          refine hL (i - 1) _ _ (by omega) ⟨j + 1, by omega, ?_, rfl, h⟩
          rw [List.take_add_one, List.take_add_one, hx, hy, i2, he]
        · refine .lss ?_
          refine .condT (by first | assumption | omega) ?_
          refine .indexL (j := j) (by rfl) hgx ?_
          refine .loadCA (by rfl) ?_
          refine .indexL (j := j) (by rfl) hgy ?_
          refine .loadCA (by rfl) ?_
          refine .eqv (t := false) (by rw [eqv_nd, decide_eq_false he]) ?_
          refine .condtt ?_
          refine .blkR ?_
          refine .ret1 (by rfl) ?_
          intro m hobj
          refine ⟨?_, h.objs hobj⟩
          rw [decide_eq_false]
          rintro rfl
          rw [hx] at hy
          exact he (Option.some.inj hy)
      · refine .lss ?_
        refine .condF (by first | assumption | omega) ?_
        refine .blk ?_
        refine .ret1 (by rfl) ?_
        intro m hobj
        refine ⟨?_, h.objs hobj⟩
        rw [List.take_of_length_le (by omega), List.take_of_length_le (by omega)] at i2
        rw [decide_eq_true i2]
    · exact ⟨0, by omega, by simp, rfl, h⟩
  · refine .lenL ?_
    refine .lenL ?_
    refine .neq ?_
    refine .condT (by first | assumption | omega) ?_
    refine .ret1 (by rfl) ?_
    intro m hobj
    refine ⟨?_, h.objs hobj⟩
    rw [decide_eq_false]
    rintro rfl
    exact hne rfl

theorem call11 {m : Mem} {fr : Heap} {v w : AV} {f g : BF} (hv : IsFn v f) (hw : IsFn w g) (hl : f.nodes.length ≤ 256) (hs : Sep m fr) :
    Tells (Am.Call T 11 [v, w] m) fun x m' => x = .bool (decide (f = g)) ∧ Sep m' fr := by
  obtain ⟨k, rfl, hk⟩ := hv
  obtain ⟨k2, rfl, hk2⟩ := hw
  refine Tells.fn 0 rfl F11_ok rfl ?_
  show Tells (S11 (Am.Call T) 0 m (.agg [.list .shared k (f.nodes.map encNd), .bool f.one]) (.agg [.list .shared k2 (g.nodes.map encNd), .bool g.one])) _
  have h : Sep ⟨m.objs, none⟩ fr := hs.objs rfl
  unfold S11 G11
  by_cases ho : f.one = g.one
  · refine .boxA ‹_› ?_
    intro nw m h
    refine .boxA ‹_› ?_
    intro nw m h
    refine .fieldAddr ?_
    refine .load1 ‹_› (.s .z) (by rfl) ?_
    refine .fieldAddr ?_
    refine .load1 ‹_› .z (by rfl) ?_
    refine .eqv (t := true) (by rw [ho]; cases g.one <;> rfl) ?_
    refine .gtt ?_
    refine .fieldAddr ?_
    refine .gtt ?_
    refine .load1 ‹_› (.s .z) (by rfl) ?_
    refine .gtt ?_
    refine .fieldAddr ?_
    refine .gtt ?_
    refine .load1 ‹_› .z (by rfl) ?_
    refine .gtt ?_
    refine Tells.call rfl (call34 hk hk2 hl h) ?_
    rintro _ m1 ⟨rfl, h⟩
    refine .picktt ?_
    refine .ret1 (by rfl) ?_
    intro m hobj
    refine ⟨?_, (h.objs hobj).tail.tail⟩
    congr 1
    cases f; cases g
    simp_all
  · refine .boxA ‹_› ?_
    intro nw m h
    refine .boxA ‹_› ?_
    intro nw m h
    refine .fieldAddr ?_
    refine .load1 ‹_› (.s .z) (by rfl) ?_
    refine .fieldAddr ?_
    refine .load1 ‹_› .z (by rfl) ?_
    refine .eqv (t := false) (by revert ho; cases f.one <;> cases g.one <;> simp <;> rfl) ?_
    refine .gft ?_
    refine .gft ?_
    refine .gft ?_
    refine .gft ?_
    refine .gft ?_
    refine .pickff ?_
    refine .ret1 (by rfl) ?_
    intro m hobj
    refine ⟨?_, (h.objs hobj).tail.tail⟩
    rw [decide_eq_false]
    rintro rfl
    exact ho rfl

/-- A variable follows: told by the functions. -/
def entB (f : BF) (q : BF) (z : Int) : Bool := decide (q = f) && decide (0 ≤ z)
theorem call21 {K : Nat} (hK : K ≤ 32) {m : Mem} {fr : Heap} {v : AV} {f : BF} {z : Int} (hv : IsFn v f) (hf : Gd K f) (hz : z < K) (hs : Sep m fr) :
    Tells (Am.Call T 21 [v, .int .i64 z] m) fun x m' => (∃ q, Gd K q ∧ Tkn K q (fun ρ => f.sem ρ && semZ z ρ) ∧ x = .bool (entB f q z)) ∧ Sep m' fr := by
  obtain ⟨k, rfl, hk⟩ := hv
  refine Tells.fn 0 rfl F21_ok rfl ?_
  show Tells (S21 (Am.Call T) 0 m (.agg [.list .shared k (f.nodes.map encNd), .bool f.one]) (.int .i64 z)) _
  have h : Sep ⟨m.objs, none⟩ fr := hs.objs rfl
  unfold S21 G21
  refine .boxA ‹_› ?_
  intro nw m h
  refine .loadA ‹_› .z (by rfl) ?_
  refine Tells.call rfl (call14 h) ?_
  rintro _ m1 ⟨⟨k3, rfl, hk3⟩, h⟩
  skip
  refine Tells.call rfl (call16 hK ⟨k, rfl, hk⟩ ⟨k3, rfl, hk3⟩ hf (gd_varB hK hz) h) ?_
  rintro _ m2 ⟨q, ⟨k4, rfl, hk4⟩, h, q1, q2⟩
  refine .loadA ‹_› .z (by rfl) ?_
  refine Tells.call rfl (call11 ⟨k4, rfl, hk4⟩ ⟨k, rfl, hk⟩ q1.len h) ?_
  rintro _ m3 ⟨rfl, h⟩
  have q3 : Tkn K q (fun ρ => f.sem ρ && semZ z ρ) := q2.congr fun ρ => by rw [sem_varB]
  by_cases hq : q = f
  · rw [decide_eq_true hq]
    refine .gDtt ?_
    refine .gDtt ?_
    refine .geq ?_
    refine .picktt ?_
    refine .stay (by first | exact stayK_nil | (repeat first | exact stayK_nil | refine stayK_cons ?_ ?_ | refine stayK_not ?_ | exact stayN_zero | refine stayN_succ (by rfl) (by first | exact Sep.load1 ‹_› (by first | exact .z | exact .s .z | exact .s (.s .z) | exact .s (.s (.s .z)) | exact .s (.s (.s (.s .z))) | exact .s (.s (.s (.s (.s .z)))) | exact .s (.s (.s (.s (.s (.s .z))))) | exact .s (.s (.s (.s (.s (.s (.s .z)))))) | exact .s (.s (.s (.s (.s (.s (.s (.s .z))))))) | exact .s (.s (.s (.s (.s (.s (.s (.s (.s .z)))))))) | exact .s (.s (.s (.s (.s (.s (.s (.s (.s (.s .z))))))))) | exact .s (.s (.s (.s (.s (.s (.s (.s (.s (.s (.s .z)))))))))) | exact .s (.s (.s (.s (.s (.s (.s (.s (.s (.s (.s (.s .z))))))))))) | exact .s (.s (.s (.s (.s (.s (.s (.s (.s (.s (.s (.s (.s .z))))))))))))) (by rfl) | exact Sep.loadA ‹_› (by first | exact .z | exact .s .z | exact .s (.s .z) | exact .s (.s (.s .z)) | exact .s (.s (.s (.s .z))) | exact .s (.s (.s (.s (.s .z)))) | exact .s (.s (.s (.s (.s (.s .z))))) | exact .s (.s (.s (.s (.s (.s (.s .z)))))) | exact .s (.s (.s (.s (.s (.s (.s (.s .z))))))) | exact .s (.s (.s (.s (.s (.s (.s (.s (.s .z)))))))) | exact .s (.s (.s (.s (.s (.s (.s (.s (.s (.s .z))))))))) | exact .s (.s (.s (.s (.s (.s (.s (.s (.s (.s (.s .z)))))))))) | exact .s (.s (.s (.s (.s (.s (.s (.s (.s (.s (.s (.s .z))))))))))) | exact .s (.s (.s (.s (.s (.s (.s (.s (.s (.s (.s (.s (.s .z))))))))))))) (by rfl) | rfl) ?_)) ?_
    refine .ret1 (by rfl) ?_
    intro m hobj
    exact ⟨⟨q, q1, q3, by rw [entB, decide_eq_true hq]; rfl⟩, (h.objs hobj).tail⟩
  · rw [decide_eq_false hq]
    refine .gDft ?_
    refine .gDft ?_
    refine .pickff ?_
    refine .stay (by first | exact stayK_nil | (repeat first | exact stayK_nil | refine stayK_cons ?_ ?_ | refine stayK_not ?_ | exact stayN_zero | refine stayN_succ (by rfl) (by first | exact Sep.load1 ‹_› (by first | exact .z | exact .s .z | exact .s (.s .z) | exact .s (.s (.s .z)) | exact .s (.s (.s (.s .z))) | exact .s (.s (.s (.s (.s .z)))) | exact .s (.s (.s (.s (.s (.s .z))))) | exact .s (.s (.s (.s (.s (.s (.s .z)))))) | exact .s (.s (.s (.s (.s (.s (.s (.s .z))))))) | exact .s (.s (.s (.s (.s (.s (.s (.s (.s .z)))))))) | exact .s (.s (.s (.s (.s (.s (.s (.s (.s (.s .z))))))))) | exact .s (.s (.s (.s (.s (.s (.s (.s (.s (.s (.s .z)))))))))) | exact .s (.s (.s (.s (.s (.s (.s (.s (.s (.s (.s (.s .z))))))))))) | exact .s (.s (.s (.s (.s (.s (.s (.s (.s (.s (.s (.s (.s .z))))))))))))) (by rfl) | exact Sep.loadA ‹_› (by first | exact .z | exact .s .z | exact .s (.s .z) | exact .s (.s (.s .z)) | exact .s (.s (.s (.s .z))) | exact .s (.s (.s (.s (.s .z)))) | exact .s (.s (.s (.s (.s (.s .z))))) | exact .s (.s (.s (.s (.s (.s (.s .z)))))) | exact .s (.s (.s (.s (.s (.s (.s (.s .z))))))) | exact .s (.s (.s (.s (.s (.s (.s (.s (.s .z)))))))) | exact .s (.s (.s (.s (.s (.s (.s (.s (.s (.s .z))))))))) | exact .s (.s (.s (.s (.s (.s (.s (.s (.s (.s (.s .z)))))))))) | exact .s (.s (.s (.s (.s (.s (.s (.s (.s (.s (.s (.s .z))))))))))) | exact .s (.s (.s (.s (.s (.s (.s (.s (.s (.s (.s (.s (.s .z))))))))))))) (by rfl) | rfl) ?_)) ?_
    refine .ret1 (by rfl) ?_
    intro m hobj
    exact ⟨⟨q, q1, q3, by rw [entB, decide_eq_false hq]; rfl⟩, (h.objs hobj).tail⟩
end Go.Proofs.P16
namespace Go.Proofs.P16
set_option linter.all false
open Go Go.Am Go.Bdd
attribute [local irreducible] loadK storeK newK boxK tipK makeMapK buildTK buildK buildSliceK nilK binK unK condK convK eqvK pickK gK gDK vK extractK fieldK lookupK mapUpdateK appendK min2K max2K retK makeSliceK freezeK bytesK loopV blkK stayK sameK rangeK callK aFieldAddr aIndexAddr aIndexAddrA aLen aIndex aSlice

theorem tk {K : Nat} (hK : K ≤ 8) {f : BF} {g : (Nat → Bool) → Bool} (h : Tkn K f g) : ∀ ρ, f.sem ρ = g ρ :=
  h.or.resolve_right fun ⟨_, h⟩ => by
    have h1 : 2 ^ K ≤ 2 ^ 8 := Nat.pow_le_pow_right (by omega) hK
    have h2 : cap K 0 = 2 ^ K - 1 := rfl
    omega

theorem ent_iff {K : Nat} (hK : K ≤ 8) {f q : BF} {z : Int} (hf : Gd K f) (hq : Gd K q) (ht : Tkn K q (fun ρ => f.sem ρ && semZ z ρ)) : entB f q z = true ↔ 0 ≤ z ∧ ∀ ρ, f.sem ρ = true → ρ z.toNat = true := by
  simp only [entB, Bool.and_eq_true, decide_eq_true_eq]
  rw [and_comm, same_iff hq.toCan hf.toCan]
  refine and_congr_right fun hz => forall_congr' fun ρ => ?_
  rw [tk hK ht]
  simp only [semZ, decide_eq_false (show ¬ z < 0 by omega), Bool.false_or]
  cases f.sem ρ <;> cases ρ z.toNat <;> simp

theorem ent_not {K : Nat} (hK : K ≤ 8) {f q : BF} {z : Int} (hf : Gd K f) (hq : Gd K q) (ht : Tkn K q (fun ρ => f.sem ρ && semZ z ρ)) (ρ : Nat → Bool) (h1 : f.sem ρ = true) (h2 : ρ z.toNat = false) : entB f q z = false := by
  cases h : entB f q z with
  | false => rfl
  | true =>
    have := ((ent_iff hK hf hq ht).1 h).2 ρ h1
    rw [h2] at this; cases this

set_option maxHeartbeats 4000000 in
theorem call5 {m : Mem} {fr : Heap} (hs : Sep m fr) : Tells (Am.Call T 5 [] m) fun x m' => x = .bool true ∧ Sep m' fr := by
  refine Tells.fn 0 rfl F5_ok rfl ?_
  show Tells (S5 (Am.Call T) 0 m) _
  have h : Sep ⟨m.objs, none⟩ fr := hs.objs rfl
  unfold S5 G5
  refine Tells.call rfl (call14 h) ?_
  rintro _ _ ⟨⟨_, rfl, k1⟩, h⟩
  refine .bs2 ?_
  refine Tells.call rfl (call15 (K := 4) (by omega) (zs := [1, 2]) ⟨1, rfl, .inl rfl⟩ (by decide) (by decide) (by decide) h) ?_
  rintro _ _ ⟨f1, ⟨_, rfl, k2⟩, h, f1g, f1t⟩
  skip
  refine Tells.call rfl (call16 (K := 4) (by omega) ⟨_, rfl, k1⟩ ⟨_, rfl, k2⟩ (gd_varB (by omega) (by decide)) f1g h) ?_
  rintro _ _ ⟨f, ⟨_, rfl, kf⟩, h, fg, ft⟩
  have fs : ∀ ρ, f.sem ρ = (ρ 0 && (ρ 1 && ρ 2)) := fun ρ => by
    rw [tk (by omega) ft, tk (by omega) f1t, sem_varB]
    simp only [semZ, iffS, List.all_cons, List.all_nil]
    show (ρ 0 && (ρ 0 == (ρ 1 && (ρ 2 && true)))) = _
    cases ρ 0 <;> cases ρ 1 <;> cases ρ 2 <;> rfl
  refine .new ‹_› ?_
  intro nw m h
  refine .storeA ‹_› .z (by rfl) (by rfl) ?_
  intro m h
  refine Tells.call rfl (call14 h) ?_
  rintro _ _ ⟨⟨_, rfl, k3⟩, h⟩
  skip
  refine Tells.call rfl (call14 h) ?_
  rintro _ _ ⟨⟨_, rfl, k4⟩, h⟩
  skip
  refine Tells.call rfl (call16 (K := 4) (by omega) ⟨_, rfl, k3⟩ ⟨_, rfl, k4⟩ (gd_varB (by omega) (by decide)) (gd_varB (by omega) (by decide)) h) ?_
  rintro _ _ ⟨g1, ⟨_, rfl, k5⟩, h, g1g, g1t⟩
  skip
  refine Tells.call rfl (call18 (K := 4) (by omega) ⟨_, rfl, k5⟩ g1g (by decide) h) ?_
  rintro _ _ ⟨g, ⟨_, rfl, kg⟩, h, gg, gt⟩
  have g1s : ∀ ρ, g1.sem ρ = (ρ 0 && ρ 1) := fun ρ => by rw [tk (by omega) g1t]; simp only [sem_varB]; rfl
  have gs : g = varB 1 := (same_iff gg.toCan (gd_varB (K := 4) (by omega) (by decide)).toCan).2 fun ρ => by
    rw [tk (by omega) gt]
    simp only [g1s, sem_varB]
    show (((upd ρ 0 false) 0 && (upd ρ 0 false) 1) || ((upd ρ 0 true) 0 && (upd ρ 0 true) 1)) = ρ 1
    simp [upd]
  refine .new ‹_› ?_
  intro nw m h
  refine .storeA ‹_› .z (by rfl) (by rfl) ?_
  intro m h
  refine Tells.call rfl (call14 h) ?_
  rintro _ _ ⟨⟨_, rfl, k6⟩, h⟩
  skip
  refine Tells.call rfl (call13 h) ?_
  rintro _ _ ⟨⟨_, rfl, k7⟩, h⟩
  skip
  refine Tells.call rfl (call17 (K := 4) (by omega) ⟨_, rfl, k6⟩ ⟨_, rfl, k7⟩ (gd_varB (by omega) (by decide)) gd_const h) ?_
  rintro _ _ ⟨e, ⟨_, rfl, ke⟩, h, eg, et⟩
  have es : e = ⟨[], true⟩ := (same_iff eg.toCan (can_const (K := 4))).2 fun ρ => by rw [tk (by omega) et, sem_const]; simp
  subst es
  refine .new ‹_› ?_
  intro nw m h
  refine .storeA ‹_› .z (by rfl) (by rfl) ?_
  intro m h
  refine .loadA ‹_› (.s (.s .z)) (by rfl) ?_
  refine Tells.call rfl (call21 (K := 4) (by omega) ⟨_, rfl, kf⟩ fg (by decide) h) ?_
  rintro _ _ ⟨⟨q1, a1, a2, rfl⟩, h⟩
  rw [(ent_iff (by omega) fg a1 a2).2 ⟨by decide, fun ρ hρ => by rw [fs] at hρ; simp only [Bool.and_eq_true] at hρ; exact hρ.2.1⟩]
  refine .gDtt ?_
  refine .loadA ‹_› (.s (.s .z)) (by rfl) ?_
  refine .gDtt ?_
  refine Tells.call rfl (call21 (K := 4) (by omega) ⟨_, rfl, kf⟩ fg (by decide) h) ?_
  rintro _ _ ⟨⟨q2, a3, a4, rfl⟩, h⟩
  rw [(ent_iff (by omega) fg a3 a4).2 ⟨by decide, fun ρ hρ => by rw [fs] at hρ; simp only [Bool.and_eq_true] at hρ; exact hρ.2.2⟩]
  refine .picktt ?_
  refine .gDtt ?_
  refine .loadA ‹_› (.s (.s .z)) (by rfl) ?_
  refine .gDtt ?_
  refine Tells.call rfl (call21 (K := 4) (by omega) ⟨_, rfl, kf⟩ fg (by decide) h) ?_
  rintro _ _ ⟨⟨q3, a5, a6, rfl⟩, h⟩
  rw [ent_not (by omega) fg a5 a6 (fun x => decide (x < 3)) (by rw [fs]; rfl) rfl]
  refine .gDtt ?_
  refine .not ?_
  refine .picktt ?_
  refine .gDtt ?_
  refine .loadA ‹_› (.s .z) (by rfl) ?_
  refine .gDtt ?_
  refine Tells.call rfl (call14 h) ?_
  rintro _ _ ⟨⟨_, rfl, k8⟩, h⟩
  refine .gDtt ?_
  refine Tells.call rfl (call11 ⟨_, rfl, kg⟩ ⟨_, rfl, k8⟩ gg.len h) ?_
  rintro _ _ ⟨rfl, h⟩
  rw [decide_eq_true gs]
  refine .picktt ?_
  refine .gDtt ?_
  refine .loadA ‹_› .z (by rfl) ?_
  refine .gDtt ?_
  refine Tells.call rfl (call13 h) ?_
  rintro _ _ ⟨⟨_, rfl, k9⟩, h⟩
  refine .gDtt ?_
  refine Tells.call rfl (call11 ⟨_, rfl, ke⟩ ⟨_, rfl, k9⟩ (by decide) h) ?_
  rintro _ _ ⟨rfl, h⟩
  rw [decide_eq_true rfl]
  refine .picktt ?_
  refine .gDtt ?_
  refine .loadA ‹_› .z (by rfl) ?_
  refine .gDtt ?_
  refine Tells.call rfl (call22 ⟨_, rfl, ke⟩ h) ?_
  rintro _ _ ⟨rfl, h⟩
  refine .gDtt ?_
  refine .eql ?_
  refine .picktt ?_
  refine .gDtt ?_
  refine Tells.call rfl (call14 h) ?_
  rintro _ _ ⟨⟨_, rfl, k10⟩, h⟩
  refine .gDtt ?_
  refine .bs1 ?_
  refine .gDtt ?_
  refine Tells.call rfl (call8 (K := 4) (zs := [3]) ⟨_, rfl, k10⟩ (gd_varB (by omega) (by decide)) ⟨1, rfl, .inl rfl⟩ (by decide) h) ?_
  rintro _ _ ⟨rfl, h⟩
  rw [sem_varB, show semZ 3 (rowR [3]) = true from rfl]
  refine .picktt ?_
  refine .gDtt ?_
  refine Tells.call rfl (call14 h) ?_
  rintro _ _ ⟨⟨_, rfl, k11⟩, h⟩
  refine .gDtt ?_
  refine Tells.call rfl (call8 (K := 4) (zs := []) ⟨_, rfl, k11⟩ (gd_varB (by omega) (by decide)) ⟨0, rfl, .inr rfl⟩ (by decide) h) ?_
  rintro _ _ ⟨rfl, h⟩
  rw [sem_varB, show semZ 3 (rowR []) = false from rfl]
  refine .gDtt ?_
  refine .not ?_
  refine .picktt ?_
  refine .stay (by first | exact stayK_nil | (repeat first | exact stayK_nil | refine stayK_cons ?_ ?_ | refine stayK_not ?_ | exact stayN_zero | refine stayN_succ (by rfl) (by first | exact Sep.load1 ‹_› (by first | exact .z | exact .s .z | exact .s (.s .z) | exact .s (.s (.s .z)) | exact .s (.s (.s (.s .z))) | exact .s (.s (.s (.s (.s .z)))) | exact .s (.s (.s (.s (.s (.s .z))))) | exact .s (.s (.s (.s (.s (.s (.s .z)))))) | exact .s (.s (.s (.s (.s (.s (.s (.s .z))))))) | exact .s (.s (.s (.s (.s (.s (.s (.s (.s .z)))))))) | exact .s (.s (.s (.s (.s (.s (.s (.s (.s (.s .z))))))))) | exact .s (.s (.s (.s (.s (.s (.s (.s (.s (.s (.s .z)))))))))) | exact .s (.s (.s (.s (.s (.s (.s (.s (.s (.s (.s (.s .z))))))))))) | exact .s (.s (.s (.s (.s (.s (.s (.s (.s (.s (.s (.s (.s .z))))))))))))) (by rfl) | exact Sep.loadA ‹_› (by first | exact .z | exact .s .z | exact .s (.s .z) | exact .s (.s (.s .z)) | exact .s (.s (.s (.s .z))) | exact .s (.s (.s (.s (.s .z)))) | exact .s (.s (.s (.s (.s (.s .z))))) | exact .s (.s (.s (.s (.s (.s (.s .z)))))) | exact .s (.s (.s (.s (.s (.s (.s (.s .z))))))) | exact .s (.s (.s (.s (.s (.s (.s (.s (.s .z)))))))) | exact .s (.s (.s (.s (.s (.s (.s (.s (.s (.s .z))))))))) | exact .s (.s (.s (.s (.s (.s (.s (.s (.s (.s (.s .z)))))))))) | exact .s (.s (.s (.s (.s (.s (.s (.s (.s (.s (.s (.s .z))))))))))) | exact .s (.s (.s (.s (.s (.s (.s (.s (.s (.s (.s (.s (.s .z))))))))))))) (by rfl) | rfl) ?_)) ?_
  refine .ret1 (by rfl) ?_
  intro m hobj
  exact ⟨rfl, (h.objs hobj).tail.tail.tail⟩
end Go.Proofs.P16
