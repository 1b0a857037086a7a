/- The walk through the tables of nodes: putting functions. -/
import Derived.Test.YtdddcofggemnkaaP16W3
namespace Go.Proofs.P16
set_option linter.all false
open Go Go.Am Go.Bdd
attribute [local irreducible] loadK storeK newK boxK tipK makeMapK buildTK buildK buildSliceK nilK binK unK condK convK eqvK pickK gK gDK vK extractK fieldK lookupK mapUpdateK appendK min2K max2K retK makeSliceK freezeK bytesK loopV blkK stayK sameK rangeK callK aFieldAddr aIndexAddr aIndexAddrA aLen aIndex aSlice

/-- A value is a function. -/
def IsFn (v : AV) (f : BF) : Prop := ∃ k, v = .agg [.list .shared k (f.nodes.map encNd), .bool f.one] ∧ (k = 3 ∨ f.nodes = [])

theorem call46 {m : Mem} {fr : Heap} (hs : Sep m fr) : Tells (Am.Call T 46 [] m) fun x m' => ∃ p t mm, x = .ptr p 0 0 ∧ Sep m' (tab p t mm [] fr) := by
  refine Tells.fn 0 rfl F46_ok rfl ?_
  show Tells (S46 (Am.Call T) 0 m) _
  have h : Sep ⟨m.objs, none⟩ fr := hs.objs rfl
  unfold S46 G46
  refine .makeMap ‹_› ?_
  intro nw m h
  refine .buildT0 ‹_› ?_
  intro nw m h
  refine .boxA ‹_› ?_
  intro nw m h
  refine .ret1 (by rfl) ?_
  intro m hobj
  exact ⟨_, _, _, rfl, h.objs hobj⟩

theorem call10 {m : Mem} {fr : Heap} (hs : Sep m fr) {b : Bool} : Tells (Am.Call T 10 [.bool b] m) fun x m' => IsFn x ⟨[], b⟩ ∧ Sep m' fr := by
  refine Tells.fn 0 rfl F10_ok rfl ?_
  show Tells (S10 (Am.Call T) 0 m (.bool b)) _
  have h : Sep ⟨m.objs, none⟩ fr := hs.objs rfl
  unfold S10 G10
  refine .new ‹_› ?_
  intro nw m h
  refine .build (cs := [.list .full 0 [], .bool b]) (by rfl) ?_
  refine .storeA ‹_› .z (by rfl) (by rfl) ?_
  intro m h
  refine .loadA ‹_› .z (by rfl) ?_
  refine .ret (by rfl) (r := .agg [.list .shared 0 [], .bool b]) (by rfl) ?_; intro m' hobj
  exact ⟨⟨0, rfl, .inr rfl⟩, (h.objs hobj).tail⟩

/-- One function is put. -/
theorem call48 {K : Nat} {m : Mem} {p t mm : Nat} {ns : List Nd} {fr : Heap} {v : AV} {f : BF} (hv : IsFn v f) (hf : Gd K f) (ht : Tb K ns) (hB : ns.length < 549755813888) (hs : Sep m (tab p t mm ns fr)) :
    Tells (Am.Call T 48 [.ptr p 0 0, v] m) fun x m' => ∃ ns' r, x = vI r ∧ Sep m' (tab p t mm ns' fr) ∧ Made K ns ns' r f.sem 0 256 := by
  obtain ⟨k, rfl, hk⟩ := hv
  have hlen := hf.len
  refine Tells.fn (f.nodes.length + 1) rfl F48_ok rfl ?_
  show Tells (S48 (Am.Call T) _ m (.ptr p 0 0) (.agg [.list .shared k (f.nodes.map encNd), .bool f.one])) _
  have h : Sep ⟨m.objs, none⟩ (tab p t mm ns fr) := hs.objs rfl
  unfold S48 G48
  refine .boxA ‹_› ?_
  intro nw m h
  refine .bs2 ?_
  refine .fieldAddr ?_
  refine .load1 ‹_› .z (by rfl) ?_
  refine .lenL ?_
  have hpn : (f.nodes.map encNd).length = f.nodes.length := List.length_map _
  rw [hpn]
  have hfit : ∀ pre n rest, f.nodes = pre ++ n :: rest → Fit pre n ∧ n.v < K ∧ k = 3 := by
    intro pre n rest he
    have hne : f.nodes ≠ [] := by rw [he]; simp
    obtain ⟨⟨_, h2, _, _⟩, _⟩ := hf.facts hne
    have hg : f.nodes[pre.length]? = some n := by rw [he]; simp
    have h3 := h2.wf.get hg
    rw [he, List.take_left'] at h3
    · exact ⟨h3, h2.low n (by rw [he]; simp), hk.resolve_right hne⟩
    · rfl
  refine Tells.loop (fun i vs m => ∃ pre rest ns1 pl g H, f.nodes = pre ++ rest ∧ rest.length = i ∧ ns <+: ns1 ∧ ns1.length ≤ ns.length + pre.length ∧ PutOk K ns1 pl pre ∧ OwnT g H (pl.map vI).length ∧
    vs = [.ptr p 0 0, .ptr nw 0 0, .list g 1 (pl.map vI), .list .shared k (f.nodes.map encNd), vI f.nodes.length, vI pre.length] ∧ Sep m (tab p t mm ns1 ((nw, .row 0 [.list .shared k (f.nodes.map encNd), .bool f.one]) :: (H ++ fr)))) ?_ (i := f.nodes.length) (by omega) ?_
  · rintro i vs m L ⟨pre, rest, ns1, pl, g, H, e1, e2, e3, e4, e5, e6, rfl, h⟩ hL
    have hl1 : f.nodes.length = pre.length + rest.length := by rw [e1]; simp
    cases rest with
    | nil =>
      simp only [List.append_nil] at e1
      simp only [List.length_nil, Nat.add_zero] at hl1
      have hlp := e5.len
      have hlm : (pl.map vI).length = pl.length := List.length_map _
      have hend : ∀ {m' : Mem} {nw : Nat} {o : AObj}, Sep m' (tab p t mm ns1 ((nw, o) :: (H ++ fr))) → Sep m' (tab p t mm ns1 fr) := fun h => (((Sep.hfront (l1 := [_, _, _, _]) h).right).mvs [2, 2, 2, 3]).tail
      refine .lss ?_
      refine .condF (by first | assumption | omega) ?_
      refine .blk ?_
      refine .fieldAddr ?_
      refine .load1 ‹_› (.s (.s (.s .z))) (by rfl) ?_
      refine .lenL ?_
      refine .eql ?_
      by_cases h0 : f.nodes.length = 0
      · have hn0 : f.nodes = [] := List.eq_nil_of_length_eq_zero h0
        refine .condT (by first | assumption | omega) ?_
        refine .fieldAddr ?_
        refine .load1 ‹_› (.s (.s (.s .z))) (by rfl) ?_
        refine Tells.call rfl (call78 h) ?_
        rintro _ m1 ⟨rfl, h1⟩
        refine .ret1 (by rfl) ?_
        intro m hobj
        refine ⟨ns1, if f.one then 1 else 0, by cases f.one <;> rfl, hend (h1.objs hobj), e5.tb, e3, by split <;> omega, fun ρ => ?_, Nat.zero_le _, by omega⟩
        simp only [BF.sem, hn0, if_true]
        cases f.one
        · simp [sem_zero]
        · simp [sem_one]
      · have hn0 : f.nodes ≠ [] := fun e => h0 (by rw [e]; rfl)
        obtain ⟨y, y1, y2, y3, y4⟩ := e5.ok (pre.length + 1) (by omega)
        have hgy : (pl.map vI)[pre.length + 1]? = some (vI y) := by rw [List.getElem?_map, y1]; rfl
        refine .condF (by first | assumption | omega) ?_
        refine .lenL ?_
        refine .sub (by rfl) (by omega) ?_
        refine .indexL (j := pre.length + 1) (by omega) hgy ?_
        refine .loadC1 (by rfl) ?_
        refine .ret1 (by rfl) ?_
        intro m hobj
        refine ⟨ns1, y, rfl, hend (h.objs hobj), e5.tb, e3, y2, fun ρ => ?_, Nat.zero_le _, by omega⟩
        simp only [BF.sem, hn0, if_false]
        rw [y3, e1]
    | cons n rest =>
      obtain ⟨g1, g2, rfl⟩ := hfit pre n rest e1
      obtain ⟨x, y, x1, x2, x3, x4, x5⟩ := e5.step g1 g2
      simp only [List.length_cons] at hl1
      have hgn : (f.nodes.map encNd)[pre.length]? = some (encNd n) := by rw [List.getElem?_map, e1]; simp
      have hgx : (pl.map vI)[n.lo]? = some (vI x) := by rw [List.getElem?_map, x1]; rfl
      have hgy : (pl.map vI)[n.hi]? = some (vI y) := by rw [List.getElem?_map, x2]; rfl
      have hlp := e5.len
      have hlm : (pl.map vI).length = pl.length := List.length_map _
      refine .lss ?_
      refine .condT (by first | assumption | omega) ?_
      refine .indexL (j := pre.length) (by rfl) hgn ?_
      refine .loadCA (by rfl) ?_
      refine .new ‹_› ?_
      intro nw m h
      refine .storeA ‹_› .z (by rfl) (by rfl) ?_
      intro m h
      refine .fieldAddr ?_
      refine .load1 ‹_› .z (by rfl) ?_
      refine .fieldAddr ?_
      refine .load1 ‹_› .z (by rfl) ?_
      refine .indexL (j := n.lo) (by rfl) hgx ?_
      refine .loadC1 (by rfl) ?_
      refine .fieldAddr ?_
      refine .load1 ‹_› .z (by rfl) ?_
      refine .indexL (j := n.hi) (by rfl) hgy ?_
      refine .loadC1 (by rfl) ?_
      refine .build3 ?_
      have h := h.mvs [4, 1, 4, 4, 4]
      refine Tells.call rfl (call50 (ns := ns1) h (n := ⟨n.v, x, y⟩) (by omega)) ?_
      rintro _ m1 ⟨rfl, h1⟩
      refine .bs1 ?_
      have h2 := Sep.hfront (l1 := [_, _, _, _, _]) h1
      refine Tells.appendO e6 h2 (.inl rfl) (by simp only [room]; omega) (by decide) (by rfl) (by rfl) ?_
      intro g' H' m2 e6' h3
      have h4 := Sep.hfront (l1 := H') h3
      refine .stay (by first | exact stayK_nil | (repeat first | exact stayK_nil | refine stayK_cons ?_ ?_ | refine stayK_not ?_ | exact stayN_zero | refine stayN_succ (by rfl) (by first | exact Sep.load1 ‹_› (by first | exact .z | exact .s .z | exact .s (.s .z) | exact .s (.s (.s .z)) | exact .s (.s (.s (.s .z))) | exact .s (.s (.s (.s (.s .z)))) | exact .s (.s (.s (.s (.s (.s .z))))) | exact .s (.s (.s (.s (.s (.s (.s .z)))))) | exact .s (.s (.s (.s (.s (.s (.s (.s .z))))))) | exact .s (.s (.s (.s (.s (.s (.s (.s (.s .z)))))))) | exact .s (.s (.s (.s (.s (.s (.s (.s (.s (.s .z))))))))) | exact .s (.s (.s (.s (.s (.s (.s (.s (.s (.s (.s .z)))))))))) | exact .s (.s (.s (.s (.s (.s (.s (.s (.s (.s (.s (.s .z))))))))))) | exact .s (.s (.s (.s (.s (.s (.s (.s (.s (.s (.s (.s (.s .z))))))))))))) (by rfl) | exact Sep.loadA ‹_› (by first | exact .z | exact .s .z | exact .s (.s .z) | exact .s (.s (.s .z)) | exact .s (.s (.s (.s .z))) | exact .s (.s (.s (.s (.s .z)))) | exact .s (.s (.s (.s (.s (.s .z))))) | exact .s (.s (.s (.s (.s (.s (.s .z)))))) | exact .s (.s (.s (.s (.s (.s (.s (.s .z))))))) | exact .s (.s (.s (.s (.s (.s (.s (.s (.s .z)))))))) | exact .s (.s (.s (.s (.s (.s (.s (.s (.s (.s .z))))))))) | exact .s (.s (.s (.s (.s (.s (.s (.s (.s (.s (.s .z)))))))))) | exact .s (.s (.s (.s (.s (.s (.s (.s (.s (.s (.s (.s .z))))))))))) | exact .s (.s (.s (.s (.s (.s (.s (.s (.s (.s (.s (.s (.s .z))))))))))))) (by rfl) | rfl) ?_)) ?_
      refine .add (c := ((pre.length + 1 : Nat) : Int)) (by rfl) (by omega) ?_
      refine hL rest.length _ _ (by rw [← e2]; simp) ⟨pre ++ [n], rest, _, pl ++ [(mkN ns1 ⟨n.v, x, y⟩).1], g', H', by rw [e1]; simp, rfl, e3.trans x3, by simp; omega, x5, by simpa using e6', by simp, ?_⟩
      exact (h4.mvs [4, 3, 3, 3, 4]).tail
  · exact ⟨[], f.nodes, ns, [0, 1], .full, [], rfl, rfl, List.prefix_refl _, by simp, putOk0 ht, .full, rfl, h.mvs [0, 3, 3, 3]⟩
end Go.Proofs.P16
