/- The walk through the tables of nodes: putting functions. -/
import Derived.Test.YtdddcofggemnkaaDoorP16W
namespace Go.Proofs.P16
set_option linter.all false
open Go Go.Am Go.Bdd
attribute [local irreducible] loadK storeK newK boxK tipK makeMapK buildTK buildK buildSliceK nilK binK unK condK convK eqvK pickK gK gDK vK extractK fieldK lookupK mapUpdateK appendK min2K max2K retK makeSliceK freezeK bytesK loopV blkK stayK sameK rangeK callK aFieldAddr aIndexAddr aIndexAddrA aLen aIndex aSlice

/-- A value is a function. -/
def IsFn (v : AV) (f : BF) : Prop := ∃ k, v = .agg [.list .shared k (f.nodes.map encNd), .bool f.one] ∧ (k = 3 ∨ f.nodes = [])

theorem call26 {m : Mem} {fr : Heap} (hs : Sep m fr) : Tells (Am.Call T 26 [] m) fun x m' => ∃ p t mm, x = .ptr p 0 0 ∧ Sep m' (tab p t mm [] fr) := by
  refine Tells.fn 0 rfl F26_ok rfl ?_
  show Tells (S26 (Am.Call T) 0 m) _
  have h : Sep ⟨m.objs, none⟩ fr := hs.objs rfl
  unfold S26 G26
  refine .makeMap ‹_› ?_
  intro nw m h
  refine .buildT0 ‹_› ?_
  intro nw m h
  refine .boxA ‹_› ?_
  intro nw m h
  refine .ret1 (by rfl) ?_
  intro m hobj
  exact ⟨_, _, _, rfl, h.objs hobj⟩

theorem call13 {m : Mem} {fr : Heap} (hs : Sep m fr) {b : Bool} : Tells (Am.Call T 13 [.bool b] m) fun x m' => IsFn x ⟨[], b⟩ ∧ Sep m' fr := by
  refine Tells.fn 0 rfl F13_ok rfl ?_
  show Tells (S13 (Am.Call T) 0 m (.bool b)) _
  have h : Sep ⟨m.objs, none⟩ fr := hs.objs rfl
  unfold S13 G13
  refine .new ‹_› ?_
  intro nw m h
  refine .build (cs := [.list .full 0 [], .bool b]) (by rfl) ?_
  refine .storeA ‹_› .z (by rfl) (by rfl) ?_
  intro m h
  refine .loadA ‹_› .z (by rfl) ?_
  refine .ret (by rfl) (r := .agg [.list .shared 0 [], .bool b]) (by rfl) ?_; intro m' hobj
  exact ⟨⟨0, rfl, .inr rfl⟩, (h.objs hobj).tail⟩

/-- One function is put. -/
theorem call28 {K : Nat} {m : Mem} {p t mm : Nat} {ns : List Nd} {fr : Heap} {v : AV} {f : BF} (hv : IsFn v f) (hf : Gd K f) (ht : Tb K ns) (hB : ns.length < 549755813888) (hs : Sep m (tab p t mm ns fr)) :
    Tells (Am.Call T 28 [.ptr p 0 0, v] m) fun x m' => ∃ ns' r, x = vI r ∧ Sep m' (tab p t mm ns' fr) ∧ Made K ns ns' r f.sem 0 256 := by
  obtain ⟨k, rfl, hk⟩ := hv
  have hlen := hf.len
  refine Tells.fn (f.nodes.length + 1) rfl F28_ok rfl ?_
  show Tells (S28 (Am.Call T) _ m (.ptr p 0 0) (.agg [.list .shared k (f.nodes.map encNd), .bool f.one])) _
  have h : Sep ⟨m.objs, none⟩ (tab p t mm ns fr) := hs.objs rfl
  unfold S28 G28
  refine .boxA ‹_› ?_
  intro nw m h
  refine .bs2 ?_
  refine .fieldAddr ?_
  refine .load1 ‹_› .z (by rfl) ?_
  refine .lenL ?_
  have hpn : (f.nodes.map encNd).length = f.nodes.length := List.length_map _
  rw [hpn]
  have hfit : ∀ pre n rest, f.nodes = pre ++ n :: rest → Fit pre n ∧ n.v < K ∧ k = 3 := by
    intro pre n rest he
    have hne : f.nodes ≠ [] := by rw [he]; simp
    obtain ⟨⟨_, h2, _, _⟩, _⟩ := hf.facts hne
    have hg : f.nodes[pre.length]? = some n := by rw [he]; simp
    have h3 := h2.wf.get hg
    rw [he, List.take_left'] at h3
    · exact ⟨h3, h2.low n (by rw [he]; simp), hk.resolve_right hne⟩
    · rfl
  refine Tells.loop (fun i vs m => ∃ pre rest ns1 pl g H, f.nodes = pre ++ rest ∧ rest.length = i ∧ ns <+: ns1 ∧ ns1.length ≤ ns.length + pre.length ∧ PutOk K ns1 pl pre ∧ OwnT g H (pl.map vI).length ∧
    vs = [.ptr p 0 0, .ptr nw 0 0, .list g 1 (pl.map vI), .list .shared k (f.nodes.map encNd), vI f.nodes.length, vI pre.length] ∧ Sep m (tab p t mm ns1 ((nw, .row 0 [.list .shared k (f.nodes.map encNd), .bool f.one]) :: (H ++ fr)))) ?_ (i := f.nodes.length) (by omega) ?_
  · rintro i vs m L ⟨pre, rest, ns1, pl, g, H, e1, e2, e3, e4, e5, e6, rfl, h⟩ hL
    have hl1 : f.nodes.length = pre.length + rest.length := by rw [e1]; simp
    cases rest with
    | nil =>
      simp only [List.append_nil] at e1
      simp only [List.length_nil, Nat.add_zero] at hl1
      have hlp := e5.len
      have hlm : (pl.map vI).length = pl.length := List.length_map _
      have hend : ∀ {m' : Mem} {nw : Nat} {o : AObj}, Sep m' (tab p t mm ns1 ((nw, o) :: (H ++ fr))) → Sep m' (tab p t mm ns1 fr) := fun h => (((Sep.hfront (l1 := [_, _, _, _]) h).right).mvs [2, 2, 2, 3]).tail
      refine .lss ?_
      refine .condF (by first | assumption | omega) ?_
      refine .blk ?_
      refine .fieldAddr ?_
      refine .load1 ‹_› (.s (.s (.s .z))) (by rfl) ?_
      refine .lenL ?_
      refine .eql ?_
      by_cases h0 : f.nodes.length = 0
      · have hn0 : f.nodes = [] := List.eq_nil_of_length_eq_zero h0
        refine .condT (by first | assumption | omega) ?_
        refine .fieldAddr ?_
        refine .load1 ‹_› (.s (.s (.s .z))) (by rfl) ?_
        refine Tells.call rfl (call47 h) ?_
        rintro _ m1 ⟨rfl, h1⟩
        refine .ret1 (by rfl) ?_
        intro m hobj
        refine ⟨ns1, if f.one then 1 else 0, by cases f.one <;> rfl, hend (h1.objs hobj), e5.tb, e3, by split <;> omega, fun ρ => ?_, Nat.zero_le _, by omega⟩
        simp only [BF.sem, hn0, if_true]
        cases f.one
        · simp [sem_zero]
        · simp [sem_one]
      · have hn0 : f.nodes ≠ [] := fun e => h0 (by rw [e]; rfl)
        obtain ⟨y, y1, y2, y3, y4⟩ := e5.ok (pre.length + 1) (by omega)
        have hgy : (pl.map vI)[pre.length + 1]? = some (vI y) := by rw [List.getElem?_map, y1]; rfl
        refine .condF (by first | assumption | omega) ?_
        refine .lenL ?_
        refine .sub (by rfl) (by omega) ?_
        refine .indexL (j := pre.length + 1) (by omega) hgy ?_
        refine .loadC1 (by rfl) ?_
        refine .ret1 (by rfl) ?_
        intro m hobj
        refine ⟨ns1, y, rfl, hend (h.objs hobj), e5.tb, e3, y2, fun ρ => ?_, Nat.zero_le _, by omega⟩
        simp only [BF.sem, hn0, if_false]
        rw [y3, e1]
    | cons n rest =>
      obtain ⟨g1, g2, rfl⟩ := hfit pre n rest e1
      obtain ⟨x, y, x1, x2, x3, x4, x5⟩ := e5.step g1 g2
      simp only [List.length_cons] at hl1
      have hgn : (f.nodes.map encNd)[pre.length]? = some (encNd n) := by rw [List.getElem?_map, e1]; simp
      have hgx : (pl.map vI)[n.lo]? = some (vI x) := by rw [List.getElem?_map, x1]; rfl
      have hgy : (pl.map vI)[n.hi]? = some (vI y) := by rw [List.getElem?_map, x2]; rfl
      have hlp := e5.len
      have hlm : (pl.map vI).length = pl.length := List.length_map _
      refine .lss ?_
      refine .condT (by first | assumption | omega) ?_
      refine .indexL (j := pre.length) (by rfl) hgn ?_
      refine .loadCA (by rfl) ?_
      refine .new ‹_› ?_
      intro nw m h
      refine .storeA ‹_› .z (by rfl) (by rfl) ?_
      intro m h
      refine .fieldAddr ?_
      refine .load1 ‹_› .z (by rfl) ?_
      refine .fieldAddr ?_
      refine .load1 ‹_› .z (by rfl) ?_
      refine .indexL (j := n.lo) (by rfl) hgx ?_
      refine .loadC1 (by rfl) ?_
      refine .fieldAddr ?_
      refine .load1 ‹_› .z (by rfl) ?_
      refine .indexL (j := n.hi) (by rfl) hgy ?_
      refine .loadC1 (by rfl) ?_
      refine .build3 ?_
      have h := h.mvs [4, 1, 4, 4, 4]
      refine Tells.call rfl (call35 (ns := ns1) h (n := ⟨n.v, x, y⟩) (by omega)) ?_
      rintro _ m1 ⟨rfl, h1⟩
      refine .bs1 ?_
      have h2 := Sep.hfront (l1 := [_, _, _, _, _]) h1
      refine Tells.appendO e6 h2 (.inl rfl) (by simp only [room]; omega) (by decide) (by rfl) (by rfl) ?_
      intro g' H' m2 e6' h3
      have h4 := Sep.hfront (l1 := H') h3
      refine .stay (by first | exact stayK_nil | (repeat first | exact stayK_nil | refine stayK_cons ?_ ?_ | refine stayK_not ?_ | exact stayN_zero | refine stayN_succ (by rfl) (by first | exact Sep.load1 ‹_› (by first | exact .z | exact .s .z | exact .s (.s .z) | exact .s (.s (.s .z)) | exact .s (.s (.s (.s .z))) | exact .s (.s (.s (.s (.s .z)))) | exact .s (.s (.s (.s (.s (.s .z))))) | exact .s (.s (.s (.s (.s (.s (.s .z)))))) | exact .s (.s (.s (.s (.s (.s (.s (.s .z))))))) | exact .s (.s (.s (.s (.s (.s (.s (.s (.s .z)))))))) | exact .s (.s (.s (.s (.s (.s (.s (.s (.s (.s .z))))))))) | exact .s (.s (.s (.s (.s (.s (.s (.s (.s (.s (.s .z)))))))))) | exact .s (.s (.s (.s (.s (.s (.s (.s (.s (.s (.s (.s .z))))))))))) | exact .s (.s (.s (.s (.s (.s (.s (.s (.s (.s (.s (.s (.s .z))))))))))))) (by rfl) | exact Sep.loadA ‹_› (by first | exact .z | exact .s .z | exact .s (.s .z) | exact .s (.s (.s .z)) | exact .s (.s (.s (.s .z))) | exact .s (.s (.s (.s (.s .z)))) | exact .s (.s (.s (.s (.s (.s .z))))) | exact .s (.s (.s (.s (.s (.s (.s .z)))))) | exact .s (.s (.s (.s (.s (.s (.s (.s .z))))))) | exact .s (.s (.s (.s (.s (.s (.s (.s (.s .z)))))))) | exact .s (.s (.s (.s (.s (.s (.s (.s (.s (.s .z))))))))) | exact .s (.s (.s (.s (.s (.s (.s (.s (.s (.s (.s .z)))))))))) | exact .s (.s (.s (.s (.s (.s (.s (.s (.s (.s (.s (.s .z))))))))))) | exact .s (.s (.s (.s (.s (.s (.s (.s (.s (.s (.s (.s (.s .z))))))))))))) (by rfl) | rfl) ?_)) ?_
      refine .add (c := ((pre.length + 1 : Nat) : Int)) (by rfl) (by omega) ?_
      refine hL rest.length _ _ (by rw [← e2]; simp) ⟨pre ++ [n], rest, _, pl ++ [(mkN ns1 ⟨n.v, x, y⟩).1], g', H', by rw [e1]; simp, rfl, e3.trans x3, by simp; omega, x5, by simpa using e6', by simp, ?_⟩
      exact (h4.mvs [4, 3, 3, 3, 4]).tail
  · exact ⟨[], f.nodes, ns, [0, 1], .full, [], rfl, rfl, List.prefix_refl _, by simp, putOk0 ht, .full, rfl, h.mvs [0, 3, 3, 3]⟩
end Go.Proofs.P16
namespace Go.Proofs.P16
set_option linter.all false
open Go Go.Am Go.Bdd
attribute [local irreducible] loadK storeK newK boxK tipK makeMapK buildTK buildK buildSliceK nilK binK unK condK convK eqvK pickK gK gDK vK extractK fieldK lookupK mapUpdateK appendK min2K max2K retK makeSliceK freezeK bytesK loopV blkK stayK sameK rangeK callK aFieldAddr aIndexAddr aIndexAddrA aLen aIndex aSlice

def mmEs (mm : List (Nat × Nat)) : List (AV × AV) := mm.map fun x => (vI x.1, vI x.2)
abbrev th (p t mm pm pb tb vb fb : Nat) (ns : List Nd) (me : List (Nat × Nat)) (g : Tag) (k : Nat) (out : List Nd) (r : Heap) : Heap :=
  tab p t mm ns ((pm, .map (mmEs me)) :: (pb, .row 0 [.map pm]) :: (tb, .row 0 [.ptr p 0 0]) :: (vb, .row 0 [.func 50 [] [.ptr pb 0 0, .ptr tb 0 0, .ptr vb 0 0, .ptr fb 0 0]]) :: (fb, .row 0 [.list g k (out.map encNd), .bool false]) :: r)

theorem memo_ge {K : Nat} {ns : List Nd} {me : List (Nat × Nat)} {out : List Nd} (hm : MemoOk K ns me out) {a : Nat} (h : lookN a me = none) : 2 ≤ a := by
  rcases Nat.lt_or_ge a 2 with h2 | h2
  · rcases (show a = 0 ∨ a = 1 by omega) with rfl | rfl
    · rw [hm.z] at h; cases h
    · rw [hm.o] at h; cases h
  · exact h2

theorem call50 {K : Nat} {p t mm pm pb tb vb fb : Nat} {ns : List Nd} (ht : Tb K ns) (hBn : ns.length < 1099511627776) : ∀ (f : Nat) {fr : Heap} {m : Mem} {me me' : List (Nat × Nat)} {out out' : List Nd} {a r : Nat} {g : Tag} {k : Nat} {H : Heap},
    dfsF ns f me out a = some (me', out', r) → a < f → MemoOk K ns me out → a < ns.length + 2 → out.length + cap K (top ns a) < 1099511627776 → OwnT g H out.length → (k = 3 ∨ out = []) → Sep m (th p t mm pm pb tb vb fb ns me g k out (H ++ fr)) →
    Tells (Am.Call T 50 [vI a, .ptr pb 0 0, .ptr tb 0 0, .ptr vb 0 0, .ptr fb 0 0] m) fun x m' => x = vI r ∧ ∃ g' k' H', OwnT g' H' out'.length ∧ (k' = 3 ∨ out' = []) ∧ Sep m' (th p t mm pm pb tb vb fb ns me' g' k' out' (H' ++ fr)) := by
  intro f
  induction f with
  | zero => intro fr m me me' out out' a r g k H h; cases h
  | succ f ih =>
    intro fr m me me' out out' a r g k H hr hf hm ha hB ho hk hs
    refine Tells.fn 0 rfl F50_ok rfl ?_
    show Tells (S50 (Am.Call T) 0 m (vI a) (.ptr pb 0 0) (.ptr tb 0 0) (.ptr vb 0 0) (.ptr fb 0 0)) _
    have h : Sep ⟨m.objs, none⟩ (th p t mm pm pb tb vb fb ns me g k out (H ++ fr)) := hs.objs rfl
    unfold S50 G50
    unfold dfsF at hr
    cases e1 : lookN a me with
    | some c =>
      rw [e1] at hr
      cases hr
      have hk1 : findKey ⟨[.i], false⟩ (vI a) (mmEs me) = some (some (vI r)) := by rw [mmEs, findKey_enc eqv_n, e1]; rfl
      refine .load1 ‹_› (.s (.s (.s (.s .z)))) (by rfl) ?_
      refine .lookup2 ‹_› (.s (.s (.s .z))) (by rfl) hk1 ?_
      refine .extract (by rfl) ?_
      refine .extract (by rfl) ?_
      refine .condtt ?_
      refine .ret1 (by rfl) ?_
      intro m hobj
      exact ⟨rfl, g, k, H, ho, hk, h.objs hobj⟩
    | none =>
      rw [e1] at hr
      have hk1 : findKey ⟨[.i], false⟩ (vI a) (mmEs me) = some none := by rw [mmEs, findKey_enc eqv_n, e1]; rfl
      have ha2 : 2 ≤ a := memo_ge hm e1
      obtain ⟨n, hn⟩ := ht.wf.at ha2 ha
      have n1 := hn.lo
      have n2 := hn.hi
      have hg := hn.get
      have htop := hn.tp
      have v1 := hn.vlo
      have v2 := hn.vhi
      have hvk := ht.top_lt hn
      have c4 := cap_two (K := K) (t := n.v) (a := top ns n.lo) (b := top ns n.hi) hvk v1 v2
      rw [htop] at hB
      simp only [hg] at hr
      obtain ⟨m1, o1, lo, p1, p2, p3, p4, p5, p6, p7, _⟩ := dfs_spec ht f (show n.lo < f by omega) hm (by omega)
      obtain ⟨m2, o2, hi, q1, q2, q3, q4, q5, q6, q7, _⟩ := dfs_spec ht f (show n.hi < f by omega) p2 (by omega)
      rw [p1] at hr; simp only at hr
      rw [q1] at hr; simp only at hr
      cases hr
      refine .load1 ‹_› (.s (.s (.s (.s .z)))) (by rfl) ?_
      refine .lookup2n ‹_› (.s (.s (.s .z))) (by rfl) hk1 ?_
      refine .extract (by rfl) ?_
      refine .extract (by rfl) ?_
      refine .condff ?_
      refine .load1 ‹_› (.s (.s (.s (.s (.s .z))))) (by rfl) ?_
      refine .nilP ?_
      refine .fieldAddr ?_
      refine .load1 ‹_› .z (by rfl) ?_
      refine .sub (by rfl) (by omega) ?_
      refine .indexL (j := a - 2) (by omega) (by rw [List.getElem?_map, hg]; rfl) ?_
      refine .loadCA (by rfl) ?_
      refine .new ‹_› ?_
      intro nw m h
      refine .storeA ‹_› .z (by rfl) (by rfl) ?_
      intro m h
      refine .load1 ‹_› (.s (.s (.s (.s (.s (.s (.s .z))))))) (by rfl) ?_
      refine .fieldAddr ?_
      refine .load1 ‹_› .z (by rfl) ?_
      have h1 := Sep.sink (l1 := [_, _, _, _, _, _, _, _]) h
      refine Tells.call rfl (ih p1 (by omega) hm (by omega) (by omega) ho hk h1) ?_
      rintro _ M1 ⟨rfl, g1, k1, H1, ho1, hkk1, h1⟩
      have h := Sep.lift (l1 := [_, _, _, _, _, _, _, _]) h1
      refine .load1 ‹_› (.s (.s (.s (.s (.s (.s (.s .z))))))) (by rfl) ?_
      refine .fieldAddr ?_
      refine .load1 ‹_› .z (by rfl) ?_
      have h2 := Sep.sink (l1 := [_, _, _, _, _, _, _, _]) h
      refine Tells.call rfl (ih q1 (by omega) p2 (by omega) (by omega) ho1 hkk1 h2) ?_
      rintro _ M2 ⟨rfl, g2, k2, H2, ho2, hkk2, h2⟩
      have h := Sep.lift (l1 := [_, _, _, _, _, _, _, _]) h2
      refine .fieldAddr ?_
      refine .load1 ‹_› (.s (.s (.s (.s (.s (.s (.s (.s .z)))))))) (by rfl) ?_
      refine .fieldAddr ?_
      refine .load1 ‹_› .z (by rfl) ?_
      refine .build3 ?_
      refine .bsA (by rfl) (by rfl) (by rfl) (by decide) (by decide) ?_
      have h3 := Sep.hfront (l1 := [_, _, _, _, _, _, _, _, _]) h
      have hx : 3 = k2 ∨ o2.map encNd = [] := hkk2.elim (fun h => .inl h.symm) fun h => .inr (by rw [h]; rfl)
      refine Tells.appendO (xs := o2.map encNd) (by rw [List.length_map]; exact ho2) h3 hx (by rw [List.length_map]; simp only [room]; omega) (by decide) (by rfl) (by rfl) ?_
      intro g3 H3 M3 ho3 h4
      have h := Sep.hfront (l1 := H3) h4
      rw [List.length_map] at ho3
      have hp : putKey ⟨[.i], false⟩ (vI a) (vI (o2.length + 2)) (mmEs m2) = some (mmEs (aputN a (o2.length + 2) m2)) := by rw [mmEs, putKey_enc eqv_n]; rfl
      have hk2 : findKey ⟨[.i], false⟩ (vI a) (mmEs (aputN a (o2.length + 2) m2)) = some (some (vI (o2.length + 2))) := by rw [mmEs, findKey_enc eqv_n, lookN_self]; rfl
      refine .fieldAddr ?_
      refine .store20 ‹_› (.s (.s (.s (.s (.s (.s (.s (.s .z)))))))) (by rfl) (by rfl) ?_
      intro m h
      refine .load1 ‹_› (.s (.s (.s (.s (.s .z))))) (by rfl) ?_
      refine .fieldAddr ?_
      refine .load1 ‹_› (.s (.s (.s (.s (.s (.s (.s (.s .z)))))))) (by rfl) ?_
      refine .lenL ?_
      refine .add (c := ((o2.length + 2 : Nat) : Int)) (by simp; omega) (by omega) ?_
      refine .mapUpdate ‹_› (.s (.s (.s (.s .z)))) (by rfl) hp ?_
      intro m h
      refine .load1 ‹_› (.s (.s (.s (.s (.s .z))))) (by rfl) ?_
      refine .lookup1 ‹_› (.s (.s (.s (.s .z)))) (by rfl) hk2 ?_
      refine .ret1 (by rfl) ?_
      intro m hobj
      refine ⟨rfl, g3, 3, H3, by simpa using ho3, .inl rfl, ?_⟩
      have h := (h.objs hobj).tail
      simp only [th, List.map_append, List.map_cons, List.map_nil]
      exact h

/-- A function is taken. -/
theorem call36 {K : Nat} {m : Mem} {p t mm : Nat} {ns : List Nd} {fr : Heap} {r : Nat} (ht : Tb K ns) (hr : r < ns.length + 2) (hK : K ≤ 32) (hBn : ns.length < 1099511627776) (hs : Sep m (tab p t mm ns fr)) :
    Tells (Am.Call T 36 [.ptr p 0 0, vI r] m) fun x m' => ∃ f, IsFn x f ∧ Sep m' (tab p t mm ns fr) ∧ Gd K f ∧ Tkn K f (sem ns r) := by
  obtain ⟨f, hf1, hf2, hf3⟩ := take_spec ht hr (Nat.lt_succ_self r)
  refine Tells.fn 0 rfl F36_ok rfl ?_
  show Tells (S36 (Am.Call T) 0 m (.ptr p 0 0) (vI r)) _
  have h : Sep ⟨m.objs, none⟩ (tab p t mm ns fr) := hs.objs rfl
  unfold S36 G36
  unfold takeF at hf1
  by_cases h2 : r < 2
  · rw [if_pos h2] at hf1
    cases hf1
    refine .box1 ‹_› (by rfl) (by rfl) ?_
    intro nw m h
    refine .new ‹_› ?_
    intro nw m h
    refine .lss ?_
    refine .condT (by first | assumption | omega) ?_
    refine .eql ?_
    refine .build (cs := [.list .full 0 [], .bool (decide ((r : Int) = 1))]) (by rfl) ?_
    refine .storeA ‹_› .z (by rfl) (by rfl) ?_
    intro m h
    refine .loadA ‹_› .z (by rfl) ?_
    refine Tells.ret (by rfl) (r := .agg [.list .shared 0 [], .bool (decide ((r : Int) = 1))]) (by rfl) ?_
    intro m' hobj
    refine ⟨_, ⟨0, ?_, .inr rfl⟩, (h.objs hobj).tail.tail, hf2, hf3⟩
    have : decide ((r : Int) = 1) = decide (r = 1) := by
      by_cases h : r = 1
      · subst h; rfl
      · rw [decide_eq_false h, decide_eq_false (by omega)]
    rw [this]
    rfl
  · rw [if_neg h2] at hf1
    obtain ⟨mm', out', r', d1, d2, d3, d4, d5, d6, d7, d8⟩ := dfs_spec ht (r + 1) (Nat.lt_succ_self r) (memo0 (K := K)) hr
    rw [d1] at hf1
    simp only [Option.some.injEq] at hf1
    have hcap : cap K (top ns r) ≤ 2 ^ K := cap_le
    have hpow : 2 ^ K ≤ 2 ^ 32 := Nat.pow_le_pow_right (by omega) hK
    simp only [List.length_nil] at d7
    refine .box1 ‹_› (by rfl) (by rfl) ?_
    intro nw m h
    refine .new ‹_› ?_
    intro nw m h
    refine .lss ?_
    refine .condF (by first | assumption | omega) ?_
    refine .new ‹_› ?_
    intro nw m h
    refine .makeMap ‹_› ?_
    intro nw m h
    refine .mapUpdate (es' := [(vI 0, vI 0)]) ‹_› .z (by rfl) (by rfl) ?_
    intro m h
    refine .mapUpdate (es' := [(vI 0, vI 0), (vI 1, vI 1)]) ‹_› .z (by rfl) (by rfl) ?_
    intro m h
    refine .new ‹_› ?_
    intro nw m h
    refine .store1 ‹_› .z (by rfl) (by rfl) ?_
    intro m h
    refine .new ‹_› ?_
    intro nw m h
    refine .store1 ‹_› .z (by rfl) (by rfl) ?_
    intro m h
    refine .load1 ‹_› .z (by rfl) ?_
    have h1 := h.mvs [4, 4, 2, 5, 4, 5, 8, 8, 8]
    refine Tells.call rfl (call50 ht hBn (r + 1) (H := []) d1 (by omega) memo0 hr (by simp only [List.length_nil]; omega) .full (.inr rfl) h1) ?_
    rintro _ M1 ⟨rfl, g1, k1, H1, ho1, hk1, h⟩
    have hlen : (out'.map encNd).length = out'.length := List.length_map _
    refine .fieldAddr ?_
    refine .load1 ‹_› (.s (.s (.s (.s (.s (.s (.s .z))))))) (by rfl) ?_
    refine .lenL ?_
    refine .gtr ?_
    by_cases h3 : 256 < out'.length
    · rw [if_pos h3] at hf1
      cases hf1
      have h := Sep.lift (l1 := [_, _, _, _, _, _, _, _]) h
      refine .condT (by first | assumption | omega) ?_
      refine Tells.call rfl (call13 h) ?_
      rintro _ M2 ⟨⟨k2, rfl, _⟩, h⟩
      refine .storeA ‹_› .z (by rfl) (by rfl) ?_
      intro m h
      refine .loadA ‹_› .z (by rfl) ?_
      refine .ret1 (by rfl) ?_
      intro m hobj
      refine ⟨⟨[], true⟩, ⟨k2, rfl, .inr rfl⟩, ?_, hf2, hf3⟩
      have h := ((h.objs hobj).mvs [3, 3, 3, 8, 8, 8, 8, 8, 8]).tail.tail.tail.tail.tail.tail
      exact (Sep.hfront (l1 := [_, _, _]) h).right
    · rw [if_neg h3] at hf1
      cases hf1
      have h := Sep.lift (l1 := [_, _, _, _, _, _, _, _]) h
      refine .condF (by first | assumption | omega) ?_
      refine .loadA ‹_› (.s (.s (.s (.s (.s (.s (.s (.s .z)))))))) (by rfl) ?_
      refine .storeA ‹_› .z (by rfl) (by rfl) ?_
      intro m h
      refine .loadA ‹_› .z (by rfl) ?_
      refine Tells.ret (by rfl) (r := .agg [.list .shared k1 (out'.map encNd), .bool false]) (by rfl) ?_
      intro m' hobj
      refine ⟨⟨out', false⟩, ⟨k1, rfl, hk1⟩, ?_, hf2, hf3⟩
      have h := ((h.objs hobj).mvs [3, 3, 3, 8, 8, 8, 8, 8, 8]).tail.tail.tail.tail.tail.tail
      exact (Sep.hfront (l1 := [_, _, _]) h).right
end Go.Proofs.P16
