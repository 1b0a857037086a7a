/- The walk through the functions: what one is for a choice; whether two are one; whether a variable follows. -/
import Derived.Test.YtdddcofggemnkaaP16W7
import Derived.Test.YtdddcofggemnkaaAmW2
namespace Go.Proofs.P16
set_option linter.all false
open Go Go.Am Go.Bdd
attribute [local irreducible] loadK storeK newK boxK tipK makeMapK buildTK buildK buildSliceK nilK binK unK condK convK eqvK pickK gK gDK vK extractK fieldK lookupK mapUpdateK appendK min2K max2K retK makeSliceK freezeK bytesK loopV blkK stayK sameK rangeK callK aFieldAddr aIndexAddr aIndexAddrA aLen aIndex aSlice

/-- The choice of a row of numbers. -/
def rowR (zs : List Int) : Nat → Bool := fun n => decide ((n : Int) ∈ zs)

theorem call14 {K : Nat} {m : Mem} {fr : Heap} {v w : AV} {f : BF} {zs : List Int} (hv : IsFn v f) (hf : Gd K f) (hw : IsInts w zs) (hl : zs.length < 1152921504606846976) (hs : Sep m fr) :
    Tells (Am.Call T 14 [v, w] m) fun x m' => x = .bool (f.sem (rowR zs)) ∧ Sep m' fr := by
  obtain ⟨k, rfl, hk⟩ := hv
  obtain ⟨k2, rfl, hk2⟩ := hw
  have hlen := hf.len
  refine Tells.fn (f.nodes.length + 2) rfl F14_ok rfl ?_
  show Tells (S14 (Am.Call T) _ m (.agg [.list .shared k (f.nodes.map encNd), .bool f.one]) (.list .shared k2 (zs.map vZ))) _
  have h : Sep ⟨m.objs, none⟩ fr := hs.objs rfl
  unfold S14 G14
  by_cases h0 : f.nodes.length = 0
  · have hn0 : f.nodes = [] := List.eq_nil_of_length_eq_zero h0
    have hml : (f.nodes.map encNd).length = 0 := by rw [List.length_map, h0]
    refine .boxA ‹_› ?_
    intro nw m h
    refine .fieldAddr ?_
    refine .load1 ‹_› .z (by rfl) ?_
    refine .lenL ?_
    refine .eql ?_
    refine .condT (by first | assumption | omega) ?_
    refine .fieldAddr ?_
    refine .load1 ‹_› .z (by rfl) ?_
    refine .ret1 (by rfl) ?_
    intro m hobj
    exact ⟨by simp only [BF.sem, hn0, if_true], (h.objs hobj).tail⟩
  · have hn0 : f.nodes ≠ [] := fun e => h0 (by rw [e]; rfl)
    have hk : k = 3 := hk.resolve_right hn0
    subst hk
    obtain ⟨h2, _⟩ := hf.facts hn0
    have hml : (f.nodes.map encNd).length = f.nodes.length := List.length_map _
    have hsem : f.sem (rowR zs) = sem f.nodes (f.nodes.length + 1) (rowR zs) := by simp only [BF.sem, hn0, if_false]
    rw [hsem]
    refine .boxA ‹_› ?_
    intro nw m h
    refine .fieldAddr ?_
    refine .load1 ‹_› .z (by rfl) ?_
    refine .lenL ?_
    refine .eql ?_
    refine .condF (by first | assumption | omega) ?_
    refine .fieldAddr ?_
    refine .load1 ‹_› .z (by rfl) ?_
    refine .lenL ?_
    refine .add (c := ((f.nodes.length + 1 : Nat) : Int)) (by rw [hml]; rfl) (by omega) ?_
    refine Tells.loop (fun i vs m => i < f.nodes.length + 2 ∧ sem f.nodes i (rowR zs) = sem f.nodes (f.nodes.length + 1) (rowR zs) ∧ vs = [.list .shared k2 (zs.map vZ), .ptr nw 0 0, vI i] ∧ Sep m ((nw, .row 0 [.list .shared 3 (f.nodes.map encNd), .bool f.one]) :: fr)) ?_ (i := f.nodes.length + 1) (by omega) ?_
    · rintro i vs m L ⟨i1, i2, rfl, h⟩ hL
      by_cases hi : 2 ≤ i
      · obtain ⟨n, hn⟩ := h2.tb.wf.at hi i1
        have hg : (f.nodes.map encNd)[i - 2]? = some (encNd n) := by rw [List.getElem?_map, hn.get]; rfl
        have n1 := hn.lo
        have n2 := hn.hi
        have n3 := hn.sem (rowR zs)
        refine .geq ?_
        refine .condT (by first | assumption | omega) ?_
        refine .fieldAddr ?_
        refine .load1 ‹_› .z (by rfl) ?_
        refine .sub (by rfl) (by omega) ?_
        refine .indexL (j := i - 2) (by omega) hg ?_
        refine .loadCA (by rfl) ?_
        refine .new ‹_› ?_
        intro nw m h
        refine .storeA ‹_› .z (by rfl) (by rfl) ?_
        intro m h
        refine .fieldAddr ?_
        refine .load1 ‹_› .z (by rfl) ?_
        refine .fieldAddr ?_
        refine .load1 ‹_› .z (by rfl) ?_
        refine Tells.call rfl (call49 ⟨k2, rfl, hk2⟩ hl h) ?_
        rintro _ m5 ⟨rfl, h⟩
        by_cases hm : (n.v : Int) ∈ zs
        · refine .condT (by first | assumption | omega) ?_
          refine .fieldAddr ?_
          refine .load1 ‹_› .z (by rfl) ?_
          refine hL n.hi _ _ n2 ⟨by omega, ?_, rfl, h.tail⟩
          rw [← i2, n3, if_pos (by simp [rowR, hm])]
        · refine .condF (by first | assumption | omega) ?_
          refine hL n.lo _ _ n1 ⟨by omega, ?_, rfl, h.tail⟩
          rw [← i2, n3, if_neg (by simp [rowR, hm])]
      · refine .geq ?_
        refine .condF (by first | assumption | omega) ?_
        refine .blk ?_
        refine .eql ?_
        refine .ret1 (by rfl) ?_
        intro m hobj
        refine ⟨?_, (h.objs hobj).tail⟩
        rw [← i2]
        rcases (show i = 0 ∨ i = 1 by omega) with rfl | rfl
        · rw [sem_zero]; rfl
        · rw [sem_one]; rfl
    · exact ⟨by omega, rfl, rfl, h⟩

theorem call59 {m : Mem} {fr : Heap} {k1 k2 : Nat} {xs ys : List Nd} (h1 : k1 = 3 ∨ xs = []) (h2 : k2 = 3 ∨ ys = []) (hl : xs.length ≤ 256) (hs : Sep m fr) :
    Tells (Am.Call T 59 [.list .shared k1 (xs.map encNd), .list .shared k2 (ys.map encNd)] m) fun x m' => x = .bool (decide (xs = ys)) ∧ Sep m' fr := by
  refine Tells.fn (xs.length + 1) rfl F59_ok rfl ?_
  show Tells (S59 (Am.Call T) _ m (.list .shared k1 (xs.map encNd)) (.list .shared k2 (ys.map encNd))) _
  have h : Sep ⟨m.objs, none⟩ fr := hs.objs rfl
  unfold S59 G59
  have l1 : (xs.map encNd).length = xs.length := List.length_map _
  have l2 : (ys.map encNd).length = ys.length := List.length_map _
  by_cases hne : xs.length = ys.length
  · refine .lenL ?_
    refine .lenL ?_
    refine .neq ?_
    refine .condF (by first | assumption | omega) ?_
    refine .lenL ?_
    refine Tells.loop (fun i vs m => ∃ j, j + i = xs.length ∧ xs.take j = ys.take j ∧ vs = [.list .shared k1 (xs.map encNd), .list .shared k2 (ys.map encNd), vI (xs.map encNd).length, vI j] ∧ Sep m fr) ?_ (i := xs.length) (by omega) ?_
    · rintro i vs m L ⟨j, i1, i2, rfl, h⟩ hL
      by_cases hj : j < xs.length
      · have e1 : k1 = 3 := h1.resolve_right (by rintro rfl; simp at hj)
        have e2 : k2 = 3 := h2.resolve_right (by rintro rfl; rw [List.length_nil] at hne; omega)
        subst e1 e2
        obtain ⟨x, hx⟩ : ∃ x, xs[j]? = some x := ⟨_, List.getElem?_eq_getElem hj⟩
        obtain ⟨y, hy⟩ : ∃ y, ys[j]? = some y := ⟨_, List.getElem?_eq_getElem (by omega)⟩
        have hgx : (xs.map encNd)[j]? = some (encNd x) := by rw [List.getElem?_map, hx]; rfl
        have hgy : (ys.map encNd)[j]? = some (encNd y) := by rw [List.getElem?_map, hy]; rfl
        by_cases he : x = y
        · refine .lss ?_
          refine .condT (by first | assumption | omega) ?_
          refine .indexL (j := j) (by rfl) hgx ?_
          refine .loadCA (by rfl) ?_
          refine .indexL (j := j) (by rfl) hgy ?_
          refine .loadCA (by rfl) ?_
          refine .eqv (t := true) (by rw [eqv_nd, decide_eq_true he]) ?_
          refine .condff ?_
          refine .add (by rfl) (by omega) ?_
          refine hL (i - 1) _ _ (by omega) ⟨j + 1, by omega, ?_, rfl, h⟩
          rw [List.take_add_one, List.take_add_one, hx, hy, i2, he]
        · refine .lss ?_
          refine .condT (by first | assumption | omega) ?_
          refine .indexL (j := j) (by rfl) hgx ?_
          refine .loadCA (by rfl) ?_
          refine .indexL (j := j) (by rfl) hgy ?_
          refine .loadCA (by rfl) ?_
          refine .eqv (t := false) (by rw [eqv_nd, decide_eq_false he]) ?_
          refine .condtt ?_
          refine .blkR ?_
          refine .ret1 (by rfl) ?_
          intro m hobj
          refine ⟨?_, h.objs hobj⟩
          rw [decide_eq_false]
          rintro rfl
          rw [hx] at hy
          exact he (Option.some.inj hy)
      · refine .lss ?_
        refine .condF (by first | assumption | omega) ?_
        refine .blk ?_
        refine .ret1 (by rfl) ?_
        intro m hobj
        refine ⟨?_, h.objs hobj⟩
        rw [List.take_of_length_le (by omega), List.take_of_length_le (by omega)] at i2
        rw [decide_eq_true i2]
    · exact ⟨0, by omega, by simp, rfl, h⟩
  · refine .lenL ?_
    refine .lenL ?_
    refine .neq ?_
    refine .condT (by first | assumption | omega) ?_
    refine .ret1 (by rfl) ?_
    intro m hobj
    refine ⟨?_, h.objs hobj⟩
    rw [decide_eq_false]
    rintro rfl
    exact hne rfl

theorem call22 {m : Mem} {fr : Heap} {v w : AV} {f g : BF} (hv : IsFn v f) (hw : IsFn w g) (hl : f.nodes.length ≤ 256) (hs : Sep m fr) :
    Tells (Am.Call T 22 [v, w] m) fun x m' => x = .bool (decide (f = g)) ∧ Sep m' fr := by
  obtain ⟨k, rfl, hk⟩ := hv
  obtain ⟨k2, rfl, hk2⟩ := hw
  refine Tells.fn 0 rfl F22_ok rfl ?_
  show Tells (S22 (Am.Call T) 0 m (.agg [.list .shared k (f.nodes.map encNd), .bool f.one]) (.agg [.list .shared k2 (g.nodes.map encNd), .bool g.one])) _
  have h : Sep ⟨m.objs, none⟩ fr := hs.objs rfl
  unfold S22 G22
  by_cases ho : f.one = g.one
  · refine .boxA ‹_› ?_
    intro nw m h
    refine .boxA ‹_› ?_
    intro nw m h
    refine .fieldAddr ?_
    refine .load1 ‹_› (.s .z) (by rfl) ?_
    refine .fieldAddr ?_
    refine .load1 ‹_› .z (by rfl) ?_
    refine .eqv (t := true) (by rw [ho]; cases g.one <;> rfl) ?_
    refine .gtt ?_
    refine .fieldAddr ?_
    refine .gtt ?_
    refine .load1 ‹_› (.s .z) (by rfl) ?_
    refine .gtt ?_
    refine .fieldAddr ?_
    refine .gtt ?_
    refine .load1 ‹_› .z (by rfl) ?_
    refine .gtt ?_
    refine Tells.call rfl (call59 hk hk2 hl h) ?_
    rintro _ m1 ⟨rfl, h⟩
    refine .picktt ?_
    refine .ret1 (by rfl) ?_
    intro m hobj
    refine ⟨?_, (h.objs hobj).tail.tail⟩
    congr 1
    cases f; cases g
    simp_all
  · refine .boxA ‹_› ?_
    intro nw m h
    refine .boxA ‹_› ?_
    intro nw m h
    refine .fieldAddr ?_
    refine .load1 ‹_› (.s .z) (by rfl) ?_
    refine .fieldAddr ?_
    refine .load1 ‹_› .z (by rfl) ?_
    refine .eqv (t := false) (by revert ho; cases f.one <;> cases g.one <;> simp <;> rfl) ?_
    refine .gft ?_
    refine .gft ?_
    refine .gft ?_
    refine .gft ?_
    refine .gft ?_
    refine .pickff ?_
    refine .ret1 (by rfl) ?_
    intro m hobj
    refine ⟨?_, (h.objs hobj).tail.tail⟩
    rw [decide_eq_false]
    rintro rfl
    exact ho rfl

/-- A variable follows: told by the functions. -/
def entB (f : BF) (q : BF) (z : Int) : Bool := decide (q = f) && decide (0 ≤ z)
theorem call19 {K : Nat} (hK : K ≤ 32) {m : Mem} {fr : Heap} {v : AV} {f : BF} {z : Int} (hv : IsFn v f) (hf : Gd K f) (hz : z < K) (hs : Sep m fr) :
    Tells (Am.Call T 19 [v, .int .i64 z] m) fun x m' => (∃ q, Gd K q ∧ Tkn K q (fun ρ => f.sem ρ && semZ z ρ) ∧ x = .bool (entB f q z)) ∧ Sep m' fr := by
  obtain ⟨k, rfl, hk⟩ := hv
  refine Tells.fn 0 rfl F19_ok rfl ?_
  show Tells (S19 (Am.Call T) 0 m (.agg [.list .shared k (f.nodes.map encNd), .bool f.one]) (.int .i64 z)) _
  have h : Sep ⟨m.objs, none⟩ fr := hs.objs rfl
  unfold S19 G19
  refine .boxA ‹_› ?_
  intro nw m h
  refine .loadA ‹_› .z (by rfl) ?_
  refine Tells.call rfl (call25 h) ?_
  rintro _ m1 ⟨⟨k3, rfl, hk3⟩, h⟩
  skip
  refine Tells.call rfl (call11 hK ⟨k, rfl, hk⟩ ⟨k3, rfl, hk3⟩ hf (gd_varB hK hz) h) ?_
  rintro _ m2 ⟨q, ⟨k4, rfl, hk4⟩, h, q1, q2⟩
  refine .loadA ‹_› .z (by rfl) ?_
  refine Tells.call rfl (call22 ⟨k4, rfl, hk4⟩ ⟨k, rfl, hk⟩ q1.len h) ?_
  rintro _ m3 ⟨rfl, h⟩
  have q3 : Tkn K q (fun ρ => f.sem ρ && semZ z ρ) := q2.congr fun ρ => by rw [sem_varB]
  by_cases hq : q = f
  · rw [decide_eq_true hq]
    refine .gDtt ?_
    refine .gDtt ?_
    refine .geq ?_
    refine .picktt ?_
    refine .stay (by first | exact stayK_nil | (repeat first | exact stayK_nil | refine stayK_cons ?_ ?_ | refine stayK_not ?_ | exact stayN_zero | refine stayN_succ (by rfl) (by first | exact Sep.load1 ‹_› (by first | exact .z | exact .s .z | exact .s (.s .z) | exact .s (.s (.s .z)) | exact .s (.s (.s (.s .z))) | exact .s (.s (.s (.s (.s .z)))) | exact .s (.s (.s (.s (.s (.s .z))))) | exact .s (.s (.s (.s (.s (.s (.s .z)))))) | exact .s (.s (.s (.s (.s (.s (.s (.s .z))))))) | exact .s (.s (.s (.s (.s (.s (.s (.s (.s .z)))))))) | exact .s (.s (.s (.s (.s (.s (.s (.s (.s (.s .z))))))))) | exact .s (.s (.s (.s (.s (.s (.s (.s (.s (.s (.s .z)))))))))) | exact .s (.s (.s (.s (.s (.s (.s (.s (.s (.s (.s (.s .z))))))))))) | exact .s (.s (.s (.s (.s (.s (.s (.s (.s (.s (.s (.s (.s .z))))))))))))) (by rfl) | exact Sep.loadA ‹_› (by first | exact .z | exact .s .z | exact .s (.s .z) | exact .s (.s (.s .z)) | exact .s (.s (.s (.s .z))) | exact .s (.s (.s (.s (.s .z)))) | exact .s (.s (.s (.s (.s (.s .z))))) | exact .s (.s (.s (.s (.s (.s (.s .z)))))) | exact .s (.s (.s (.s (.s (.s (.s (.s .z))))))) | exact .s (.s (.s (.s (.s (.s (.s (.s (.s .z)))))))) | exact .s (.s (.s (.s (.s (.s (.s (.s (.s (.s .z))))))))) | exact .s (.s (.s (.s (.s (.s (.s (.s (.s (.s (.s .z)))))))))) | exact .s (.s (.s (.s (.s (.s (.s (.s (.s (.s (.s (.s .z))))))))))) | exact .s (.s (.s (.s (.s (.s (.s (.s (.s (.s (.s (.s (.s .z))))))))))))) (by rfl) | rfl) ?_)) ?_
    refine .ret1 (by rfl) ?_
    intro m hobj
    exact ⟨⟨q, q1, q3, by rw [entB, decide_eq_true hq]; rfl⟩, (h.objs hobj).tail⟩
  · rw [decide_eq_false hq]
    refine .gDft ?_
    refine .gDft ?_
    refine .pickff ?_
    refine .stay (by first | exact stayK_nil | (repeat first | exact stayK_nil | refine stayK_cons ?_ ?_ | refine stayK_not ?_ | exact stayN_zero | refine stayN_succ (by rfl) (by first | exact Sep.load1 ‹_› (by first | exact .z | exact .s .z | exact .s (.s .z) | exact .s (.s (.s .z)) | exact .s (.s (.s (.s .z))) | exact .s (.s (.s (.s (.s .z)))) | exact .s (.s (.s (.s (.s (.s .z))))) | exact .s (.s (.s (.s (.s (.s (.s .z)))))) | exact .s (.s (.s (.s (.s (.s (.s (.s .z))))))) | exact .s (.s (.s (.s (.s (.s (.s (.s (.s .z)))))))) | exact .s (.s (.s (.s (.s (.s (.s (.s (.s (.s .z))))))))) | exact .s (.s (.s (.s (.s (.s (.s (.s (.s (.s (.s .z)))))))))) | exact .s (.s (.s (.s (.s (.s (.s (.s (.s (.s (.s (.s .z))))))))))) | exact .s (.s (.s (.s (.s (.s (.s (.s (.s (.s (.s (.s (.s .z))))))))))))) (by rfl) | exact Sep.loadA ‹_› (by first | exact .z | exact .s .z | exact .s (.s .z) | exact .s (.s (.s .z)) | exact .s (.s (.s (.s .z))) | exact .s (.s (.s (.s (.s .z)))) | exact .s (.s (.s (.s (.s (.s .z))))) | exact .s (.s (.s (.s (.s (.s (.s .z)))))) | exact .s (.s (.s (.s (.s (.s (.s (.s .z))))))) | exact .s (.s (.s (.s (.s (.s (.s (.s (.s .z)))))))) | exact .s (.s (.s (.s (.s (.s (.s (.s (.s (.s .z))))))))) | exact .s (.s (.s (.s (.s (.s (.s (.s (.s (.s (.s .z)))))))))) | exact .s (.s (.s (.s (.s (.s (.s (.s (.s (.s (.s (.s .z))))))))))) | exact .s (.s (.s (.s (.s (.s (.s (.s (.s (.s (.s (.s (.s .z))))))))))))) (by rfl) | rfl) ?_)) ?_
    refine .ret1 (by rfl) ?_
    intro m hobj
    exact ⟨⟨q, q1, q3, by rw [entB, decide_eq_false hq]; rfl⟩, (h.objs hobj).tail⟩
end Go.Proofs.P16
