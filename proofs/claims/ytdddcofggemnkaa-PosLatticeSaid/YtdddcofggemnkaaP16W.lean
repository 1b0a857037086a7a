/- The walk through the tables of nodes. -/
import Derived.Test.YtdddcofggemnkaaAmW
import Derived.Test.YtdddcofggemnkaaBdd
import Derived.Test.YtdddcofggemnkaaP16Sh
namespace Go.Proofs.P16
set_option linter.all false
open Go Go.Am Go.Bdd
attribute [local irreducible] loadK storeK newK boxK tipK makeMapK buildTK buildK buildSliceK nilK binK unK condK convK eqvK pickK gK gDK vK extractK fieldK lookupK mapUpdateK appendK min2K max2K retK makeSliceK freezeK bytesK loopV blkK stayK sameK rangeK callK aFieldAddr aIndexAddr aIndexAddrA aLen aIndex aSlice

abbrev vI (n : Nat) : AV := .int .i64 (n : Int)
abbrev encNd (n : Nd) : AV := .agg [.int .i64 (n.v : Int), .int .i64 (n.lo : Int), .int .i64 (n.hi : Int)]
/-- What a table holds. -/
def tabEs (ns : List Nd) : List (AV × AV) := (ns.zipIdx 2).map fun e => (encNd e.1, vI e.2)
abbrev tab (p t mm : Nat) (ns : List Nd) (fr : Heap) : Heap := (p, .row 0 [.list (.own t) 3 (ns.map encNd), .map mm]) :: (t, .tip ns.length) :: (mm, .map (tabEs ns)) :: fr

theorem call76 {m : Mem} {p t mm : Nat} {ns : List Nd} {fr : Heap} (h : Sep m (tab p t mm ns fr)) {a : Nat} (ha : a < ns.length + 2) (hb : ns.length < 1152921504606846976) :
    Tells (Am.Call T 76 [.ptr p 0 0, vI a] m) fun r m' => r = vI (top ns a) ∧ Sep m' (tab p t mm ns fr) := by
  refine Tells.fn 0 rfl F76_ok rfl ?_
  show Tells (S76 (Am.Call T) 0 m (.ptr p 0 0) (vI a)) _
  have h0 : Sep ⟨m.objs, none⟩ (tab p t mm ns fr) := h.objs rfl
  unfold S76 G76
  by_cases h2 : a < 2
  · refine .lss ?_
    refine .condT (by first | assumption | omega) ?_
    refine .ret1 (by rfl) ?_
    intro m hobj
    exact ⟨by rw [top_const h2]; rfl, h0.objs hobj⟩
  · obtain ⟨n, hn⟩ : ∃ n, ns[a - 2]? = some n := ⟨_, List.getElem?_eq_getElem (by omega)⟩
    refine .lss ?_
    refine .condF (by first | assumption | omega) ?_
    refine .nilP ?_
    refine .fieldAddr ?_
    refine .load1 ‹_› .z (by rfl) ?_
    refine .sub (by rfl) (by omega) ?_
    refine .indexL (j := a - 2) (by omega) (by rw [List.getElem?_map, hn]; rfl) ?_
    refine .fieldAddrC1 (by rfl) ?_
    refine .loadCF ?_
    refine .ret1 (by rfl) ?_
    intro m hobj
    refine ⟨?_, h0.objs hobj⟩
    simp only [top, if_neg h2, hn]

theorem call78 {m : Mem} {l : Heap} (h : Sep m l) {b : Bool} : Tells (Am.Call T 78 [.bool b] m) fun r m' => r = vI (if b then 1 else 0) ∧ Sep m' l := by
  refine Tells.fn 0 rfl F78_ok rfl ?_
  show Tells (S78 (Am.Call T) 0 m (.bool b)) _
  have h0 : Sep ⟨m.objs, none⟩ l := h.objs rfl
  unfold S78 G78
  cases b
  · refine .condff ?_
    refine .ret1 (by rfl) ?_
    intro m hobj
    exact ⟨rfl, h0.objs hobj⟩
  · refine .condtt ?_
    refine .ret1 (by rfl) ?_
    intro m hobj
    exact ⟨rfl, h0.objs hobj⟩

theorem call77 {m : Mem} {p t mm : Nat} {ns : List Nd} {fr : Heap} (h : Sep m (tab p t mm ns fr)) {a v : Nat} (ha : a < ns.length + 2) (hb : ns.length < 1152921504606846976) (hvf : v < far) :
    Tells (Am.Call T 77 [.ptr p 0 0, vI a, vI v] m) fun r m' => r = .tuple [vI (waysN ns a v).1, vI (waysN ns a v).2] ∧ Sep m' (tab p t mm ns fr) := by
  refine Tells.fn 0 rfl F77_ok rfl ?_
  show Tells (S77 (Am.Call T) 0 m (.ptr p 0 0) (vI a) (vI v)) _
  have h0 : Sep ⟨m.objs, none⟩ (tab p t mm ns fr) := h.objs rfl
  unfold S77 G77
  refine Tells.call rfl (call76 h0 ha hb) ?_
  rintro _ m1 ⟨rfl, h1⟩
  by_cases hv : top ns a = v
  · have h2 : ¬ a < 2 := fun h2 => by rw [top_const h2] at hv; omega
    obtain ⟨n, hn⟩ : ∃ n, ns[a - 2]? = some n := ⟨_, List.getElem?_eq_getElem (by omega)⟩
    refine .neq ?_
    refine .condF (by first | assumption | omega) ?_
    refine .nilP ?_
    refine .fieldAddr ?_
    refine .load1 ‹_› .z (by rfl) ?_
    refine .sub (by rfl) (by omega) ?_
    refine .indexL (j := a - 2) (by omega) (by rw [List.getElem?_map, hn]; rfl) ?_
    refine .fieldAddrC1 (by rfl) ?_
    refine .loadCF ?_
    refine .nilP ?_
    refine .fieldAddr ?_
    refine .load1 ‹_› .z (by rfl) ?_
    refine .sub (by rfl) (by omega) ?_
    refine .indexL (j := a - 2) (by omega) (by rw [List.getElem?_map, hn]; rfl) ?_
    refine .fieldAddrC1 (by rfl) ?_
    refine .loadCF ?_
    refine .ret2 (by rfl) ?_; intro m' hobj
    refine ⟨?_, h1.objs hobj⟩
    simp only [waysN, if_pos hv, hn]
    rfl
  · refine .neq ?_
    refine .condT (by first | assumption | omega) ?_
    refine .ret2 (by rfl) ?_; intro m' hobj
    refine ⟨?_, h1.objs hobj⟩
    simp only [waysN, if_neg hv]
    rfl

/-! keys -/
theorem findKey_enc {κ β : Type} [DecidableEq κ] {q : EQ} {e : κ → AV} {g : β → AV} (he : ∀ a b, AV.eqv q (e a) (e b) = some (decide (a = b))) {k : κ} : ∀ {es : List (κ × β)}, findKey q (e k) (es.map fun x => (e x.1, g x.2)) = some ((lookN k es).map g) := by
  intro es
  induction es with
  | nil => rfl
  | cons x es ih =>
    obtain ⟨y, b⟩ := x
    simp only [List.map_cons, findKey, he, lookN]
    by_cases h : k = y
    · rw [decide_eq_true h, if_pos h]; rfl
    · rw [decide_eq_false h, if_neg h]; exact ih
theorem putKey_enc {κ β : Type} [DecidableEq κ] {q : EQ} {e : κ → AV} {g : β → AV} (he : ∀ a b, AV.eqv q (e a) (e b) = some (decide (a = b))) {k : κ} {b : β} : ∀ {es : List (κ × β)}, putKey q (e k) (g b) (es.map fun x => (e x.1, g x.2)) = some ((aputN k b es).map fun x => (e x.1, g x.2)) := by
  intro es
  induction es with
  | nil => rfl
  | cons x es ih =>
    obtain ⟨y, c⟩ := x
    simp only [List.map_cons, putKey, he, aputN]
    by_cases h : k = y
    · rw [decide_eq_true h, if_pos h]; rfl
    · rw [decide_eq_false h, if_neg h]
      simp only [ih, List.map_cons]
theorem eqv_nd (a b : Nd) : AV.eqv ⟨[.i, .i, .i], true⟩ (encNd a) (encNd b) = some (decide (a = b)) := by
  obtain ⟨a1, a2, a3⟩ := a
  obtain ⟨b1, b2, b3⟩ := b
  simp only [AV.eqv, AV.isAgg, and_self, if_true, AV.cells, AV.eqCells, AV.eq1, Option.some.injEq, Nd.mk.injEq]
  rw [Bool.eq_iff_iff]
  simp only [Bool.and_eq_true, beq_iff_eq, decide_eq_true_eq, and_true, Int.natCast_inj]
abbrev encP (k : Nat × Nat) : AV := .agg [vI k.1, vI k.2]
theorem eqv_p (a b : Nat × Nat) : AV.eqv ⟨[.i, .i], true⟩ (encP a) (encP b) = some (decide (a = b)) := by
  obtain ⟨a1, a2⟩ := a
  obtain ⟨b1, b2⟩ := b
  simp only [AV.eqv, AV.isAgg, and_self, if_true, AV.cells, AV.eqCells, AV.eq1, Option.some.injEq, Prod.mk.injEq]
  rw [Bool.eq_iff_iff]
  simp only [Bool.and_eq_true, beq_iff_eq, decide_eq_true_eq, and_true, Int.natCast_inj]
theorem eqv_n (a b : Nat) : AV.eqv ⟨[.i], false⟩ (vI a) (vI b) = some (decide (a = b)) := by
  simp only [AV.eqv, AV.isAgg, and_self, if_true, AV.cells, AV.eqCells, AV.eq1, Option.some.injEq]
  rw [Bool.eq_iff_iff]
  simp only [Bool.and_eq_true, beq_iff_eq, decide_eq_true_eq, and_true, Int.natCast_inj]

theorem lookN_zip {n : Nd} : ∀ {ns : List Nd} {k : Nat}, lookN n (ns.zipIdx k) = fnd n k ns := by
  intro ns
  induction ns with
  | nil => intro k; rfl
  | cons x ns ih => intro k; simp only [List.zipIdx_cons, lookN, fnd, ih]
theorem aputN_zip {n : Nd} : ∀ {ns : List Nd} {k : Nat}, fnd n k ns = none → aputN n (k + ns.length) (ns.zipIdx k) = (ns ++ [n]).zipIdx k := by
  intro ns
  induction ns with
  | nil => intro k _; rfl
  | cons x ns ih =>
    intro k h
    simp only [fnd] at h
    split at h
    · cases h
    · rename_i hx
      simp only [List.zipIdx_cons, aputN, if_neg hx, List.cons_append, List.length_cons]
      rw [show k + (ns.length + 1) = k + 1 + ns.length by omega, ih h]
theorem find_tab {n : Nd} {ns : List Nd} : findKey ⟨[.i, .i, .i], true⟩ (encNd n) (tabEs ns) = some ((fnd n 2 ns).map vI) := by
  rw [tabEs, findKey_enc eqv_nd, lookN_zip]
theorem put_tab {n : Nd} {ns : List Nd} (h : fnd n 2 ns = none) : putKey ⟨[.i, .i, .i], true⟩ (encNd n) (vI (2 + ns.length)) (tabEs ns) = some (tabEs (ns ++ [n])) := by
  rw [tabEs, putKey_enc eqv_nd, aputN_zip h]; rfl

theorem fnd_snoc {n : Nd} : ∀ {ns : List Nd} {k : Nat}, fnd n k ns = none → fnd n k (ns ++ [n]) = some (k + ns.length) := by
  intro ns
  induction ns with
  | nil => intro k _; simp [fnd]
  | cons x ns ih =>
    intro k h
    simp only [fnd] at h
    split at h
    · cases h
    · rename_i hx
      simp only [List.cons_append, fnd, if_neg hx, List.length_cons]
      rw [ih h]
      congr 1
      omega

/-- One node is made. -/
theorem call50 {m : Mem} {p t mm : Nat} {ns : List Nd} {fr : Heap} (hs : Sep m (tab p t mm ns fr)) {n : Nd} (hb : ns.length < 1099511627776) :
    Tells (Am.Call T 50 [.ptr p 0 0, encNd n] m) fun r m' => r = vI (mkN ns n).1 ∧ Sep m' (tab p t mm (mkN ns n).2 fr) := by
  refine Tells.fn 0 rfl F50_ok rfl ?_
  show Tells (S50 (Am.Call T) 0 m (.ptr p 0 0) (encNd n)) _
  have h : Sep ⟨m.objs, none⟩ (tab p t mm ns fr) := hs.objs rfl
  unfold S50 G50
  by_cases he : n.lo = n.hi
  · refine .boxA ‹_› ?_
    intro nw m h
    refine .fieldAddr ?_
    refine .load1 ‹_› .z (by rfl) ?_
    refine .fieldAddr ?_
    refine .load1 ‹_› .z (by rfl) ?_
    refine .eql ?_
    refine .condT (by first | assumption | omega) ?_
    refine .fieldAddr ?_
    refine .load1 ‹_› .z (by rfl) ?_
    refine .ret1 (by rfl) ?_
    intro m hobj
    simp only [mkN, if_pos he]
    exact ⟨trivial, (h.objs hobj).tail⟩
  · cases hf : fnd n 2 ns with
    | some k =>
      have hk : findKey ⟨[.i, .i, .i], true⟩ (encNd n) (tabEs ns) = some (some (vI k)) := by rw [find_tab, hf]; rfl
      refine .boxA ‹_› ?_
      intro nw m h
      refine .fieldAddr ?_
      refine .load1 ‹_› .z (by rfl) ?_
      refine .fieldAddr ?_
      refine .load1 ‹_› .z (by rfl) ?_
      refine .eql ?_
      refine .condF (by first | assumption | omega) ?_
      refine .nilP ?_
      refine .fieldAddr ?_
      refine .load1 ‹_› (.s .z) (by rfl) ?_
      refine .loadA ‹_› .z (by rfl) ?_
      refine .lookup2 ‹_› (.s (.s (.s .z))) (by rfl) hk ?_
      refine .extract (by rfl) ?_
      refine .extract (by rfl) ?_
      refine .not ?_
      refine .condff ?_
      refine .nilP ?_
      refine .fieldAddr ?_
      refine .load1 ‹_› (.s .z) (by rfl) ?_
      refine .loadA ‹_› .z (by rfl) ?_
      refine .lookup1 ‹_› (.s (.s (.s .z))) (by rfl) hk ?_
      refine .ret1 (by rfl) ?_
      intro m hobj
      simp only [mkN, if_neg he, hf]
      exact ⟨trivial, (h.objs hobj).tail⟩
    | none =>
      have hk : findKey ⟨[.i, .i, .i], true⟩ (encNd n) (tabEs ns) = some none := by rw [find_tab, hf]; rfl
      have hk2 : findKey ⟨[.i, .i, .i], true⟩ (encNd n) (tabEs (ns ++ [n])) = some (some (vI (2 + ns.length))) := by rw [find_tab, fnd_snoc hf]; rfl
      refine .boxA ‹_› ?_
      intro nw m h
      refine .fieldAddr ?_
      refine .load1 ‹_› .z (by rfl) ?_
      refine .fieldAddr ?_
      refine .load1 ‹_› .z (by rfl) ?_
      refine .eql ?_
      refine .condF (by first | assumption | omega) ?_
      refine .nilP ?_
      refine .fieldAddr ?_
      refine .load1 ‹_› (.s .z) (by rfl) ?_
      refine .loadA ‹_› .z (by rfl) ?_
      refine .lookup2n ‹_› (.s (.s (.s .z))) (by rfl) hk ?_
      refine .extract (by rfl) ?_
      refine .extract (by rfl) ?_
      refine .not ?_
      refine .condtt ?_
      refine .nilP ?_
      refine .fieldAddr ?_
      refine .load1 ‹_› (.s .z) (by rfl) ?_
      refine .loadA ‹_› .z (by rfl) ?_
      refine .bsA (by rfl) (by rfl) (by rfl) (by decide) (by decide) ?_
      refine .append1 ‹_› (.s (.s .z)) (by simp) (by simp only [room]; omega) (by decide) (by rfl) (by rfl) ?_
      intro m h
      refine .nilP ?_
      refine .fieldAddr ?_
      refine .store20 ‹_› (.s .z) (by rfl) (by rfl) ?_
      intro m h
      refine .stay (by first | exact stayK_nil | (repeat first | exact stayK_nil | refine stayK_cons ?_ ?_ | refine stayK_not ?_ | exact stayN_zero | refine stayN_succ (by rfl) (by first | exact Sep.load1 ‹_› (by first | exact .z | exact .s .z | exact .s (.s .z) | exact .s (.s (.s .z)) | exact .s (.s (.s (.s .z))) | exact .s (.s (.s (.s (.s .z)))) | exact .s (.s (.s (.s (.s (.s .z))))) | exact .s (.s (.s (.s (.s (.s (.s .z)))))) | exact .s (.s (.s (.s (.s (.s (.s (.s .z))))))) | exact .s (.s (.s (.s (.s (.s (.s (.s (.s .z)))))))) | exact .s (.s (.s (.s (.s (.s (.s (.s (.s (.s .z))))))))) | exact .s (.s (.s (.s (.s (.s (.s (.s (.s (.s (.s .z)))))))))) | exact .s (.s (.s (.s (.s (.s (.s (.s (.s (.s (.s (.s .z))))))))))) | exact .s (.s (.s (.s (.s (.s (.s (.s (.s (.s (.s (.s (.s .z))))))))))))) (by rfl) | exact Sep.loadA ‹_› (by first | exact .z | exact .s .z | exact .s (.s .z) | exact .s (.s (.s .z)) | exact .s (.s (.s (.s .z))) | exact .s (.s (.s (.s (.s .z)))) | exact .s (.s (.s (.s (.s (.s .z))))) | exact .s (.s (.s (.s (.s (.s (.s .z)))))) | exact .s (.s (.s (.s (.s (.s (.s (.s .z))))))) | exact .s (.s (.s (.s (.s (.s (.s (.s (.s .z)))))))) | exact .s (.s (.s (.s (.s (.s (.s (.s (.s (.s .z))))))))) | exact .s (.s (.s (.s (.s (.s (.s (.s (.s (.s (.s .z)))))))))) | exact .s (.s (.s (.s (.s (.s (.s (.s (.s (.s (.s (.s .z))))))))))) | exact .s (.s (.s (.s (.s (.s (.s (.s (.s (.s (.s (.s (.s .z))))))))))))) (by rfl) | rfl) ?_)) ?_
      refine .nilP ?_
      refine .fieldAddr ?_
      refine .load1 ‹_› (.s .z) (by rfl) ?_
      refine .loadA ‹_› .z (by rfl) ?_
      refine .nilP ?_
      refine .fieldAddr ?_
      refine .load1 ‹_› (.s .z) (by rfl) ?_
      refine .lenL ?_
      refine .add (c := ((2 + ns.length : Nat) : Int)) (by simp; omega) (by omega) ?_
      refine .mapUpdate ‹_› (.s (.s (.s .z))) (by rfl) (put_tab hf) ?_
      intro m h
      refine .stay (by first | exact stayK_nil | (repeat first | exact stayK_nil | refine stayK_cons ?_ ?_ | refine stayK_not ?_ | exact stayN_zero | refine stayN_succ (by rfl) (by first | exact Sep.load1 ‹_› (by first | exact .z | exact .s .z | exact .s (.s .z) | exact .s (.s (.s .z)) | exact .s (.s (.s (.s .z))) | exact .s (.s (.s (.s (.s .z)))) | exact .s (.s (.s (.s (.s (.s .z))))) | exact .s (.s (.s (.s (.s (.s (.s .z)))))) | exact .s (.s (.s (.s (.s (.s (.s (.s .z))))))) | exact .s (.s (.s (.s (.s (.s (.s (.s (.s .z)))))))) | exact .s (.s (.s (.s (.s (.s (.s (.s (.s (.s .z))))))))) | exact .s (.s (.s (.s (.s (.s (.s (.s (.s (.s (.s .z)))))))))) | exact .s (.s (.s (.s (.s (.s (.s (.s (.s (.s (.s (.s .z))))))))))) | exact .s (.s (.s (.s (.s (.s (.s (.s (.s (.s (.s (.s (.s .z))))))))))))) (by rfl) | exact Sep.loadA ‹_› (by first | exact .z | exact .s .z | exact .s (.s .z) | exact .s (.s (.s .z)) | exact .s (.s (.s (.s .z))) | exact .s (.s (.s (.s (.s .z)))) | exact .s (.s (.s (.s (.s (.s .z))))) | exact .s (.s (.s (.s (.s (.s (.s .z)))))) | exact .s (.s (.s (.s (.s (.s (.s (.s .z))))))) | exact .s (.s (.s (.s (.s (.s (.s (.s (.s .z)))))))) | exact .s (.s (.s (.s (.s (.s (.s (.s (.s (.s .z))))))))) | exact .s (.s (.s (.s (.s (.s (.s (.s (.s (.s (.s .z)))))))))) | exact .s (.s (.s (.s (.s (.s (.s (.s (.s (.s (.s (.s .z))))))))))) | exact .s (.s (.s (.s (.s (.s (.s (.s (.s (.s (.s (.s (.s .z))))))))))))) (by rfl) | rfl) ?_)) ?_
      refine .nilP ?_
      refine .fieldAddr ?_
      refine .load1 ‹_› (.s .z) (by rfl) ?_
      refine .loadA ‹_› .z (by rfl) ?_
      refine .lookup1 ‹_› (.s (.s (.s .z))) (by rfl) hk2 ?_
      refine .ret1 (by rfl) ?_
      intro m hobj
      simp only [mkN, if_neg he, hf]
      refine ⟨by rw [Nat.add_comm], ?_⟩
      have := (h.objs hobj).tail
      simpa only [tab, List.map_append, List.map_cons, List.map_nil, List.length_append, List.length_cons, List.length_nil, Nat.zero_add] using this

end Go.Proofs.P16
