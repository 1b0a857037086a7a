/- The walk through the tables of nodes. -/
import Derived.Test.YtdddcofggemnkaaDoorAmW
import Derived.Test.YtdddcofggemnkaaDoorBdd
import Derived.Test.YtdddcofggemnkaaDoorP16Sh
namespace Go.Proofs.P16
set_option linter.all false
open Go Go.Am Go.Bdd
attribute [local irreducible] loadK storeK newK boxK tipK makeMapK buildTK buildK buildSliceK nilK binK unK condK convK eqvK pickK gK gDK vK extractK fieldK lookupK mapUpdateK appendK min2K max2K retK makeSliceK freezeK bytesK loopV blkK stayK sameK rangeK callK aFieldAddr aIndexAddr aIndexAddrA aLen aIndex aSlice

abbrev vI (n : Nat) : AV := .int .i64 (n : Int)
abbrev encNd (n : Nd) : AV := .agg [.int .i64 (n.v : Int), .int .i64 (n.lo : Int), .int .i64 (n.hi : Int)]
/-- What a table holds. -/
def tabEs (ns : List Nd) : List (AV × AV) := (ns.zipIdx 2).map fun e => (encNd e.1, vI e.2)
abbrev tab (p t mm : Nat) (ns : List Nd) (fr : Heap) : Heap := (p, .row 0 [.list (.own t) 3 (ns.map encNd), .map mm]) :: (t, .tip ns.length) :: (mm, .map (tabEs ns)) :: fr

theorem call45 {m : Mem} {p t mm : Nat} {ns : List Nd} {fr : Heap} (h : Sep m (tab p t mm ns fr)) {a : Nat} (ha : a < ns.length + 2) (hb : ns.length < 1152921504606846976) :
    Tells (Am.Call T 45 [.ptr p 0 0, vI a] m) fun r m' => r = vI (top ns a) ∧ Sep m' (tab p t mm ns fr) := by
  refine Tells.fn 0 rfl F45_ok rfl ?_
  show Tells (S45 (Am.Call T) 0 m (.ptr p 0 0) (vI a)) _
  have h0 : Sep ⟨m.objs, none⟩ (tab p t mm ns fr) := h.objs rfl
  unfold S45 G45
  by_cases h2 : a < 2
  · refine .lss ?_
    refine .condT (by first | assumption | omega) ?_
    refine .ret1 (by rfl) ?_
    intro m hobj
    exact ⟨by rw [top_const h2]; rfl, h0.objs hobj⟩
  · obtain ⟨n, hn⟩ : ∃ n, ns[a - 2]? = some n := ⟨_, List.getElem?_eq_getElem (by omega)⟩
    refine .lss ?_
    refine .condF (by first | assumption | omega) ?_
    refine .nilP ?_
    refine .fieldAddr ?_
    refine .load1 ‹_› .z (by rfl) ?_
    refine .sub (by rfl) (by omega) ?_
    refine .indexL (j := a - 2) (by omega) (by rw [List.getElem?_map, hn]; rfl) ?_
    refine .fieldAddrC1 (by rfl) ?_
    refine .loadCF ?_
    refine .ret1 (by rfl) ?_
    intro m hobj
    refine ⟨?_, h0.objs hobj⟩
    simp only [top, if_neg h2, hn]

theorem call47 {m : Mem} {l : Heap} (h : Sep m l) {b : Bool} : Tells (Am.Call T 47 [.bool b] m) fun r m' => r = vI (if b then 1 else 0) ∧ Sep m' l := by
  refine Tells.fn 0 rfl F47_ok rfl ?_
  show Tells (S47 (Am.Call T) 0 m (.bool b)) _
  have h0 : Sep ⟨m.objs, none⟩ l := h.objs rfl
  unfold S47 G47
  cases b
  · refine .condff ?_
    refine .ret1 (by rfl) ?_
    intro m hobj
    exact ⟨rfl, h0.objs hobj⟩
  · refine .condtt ?_
    refine .ret1 (by rfl) ?_
    intro m hobj
    exact ⟨rfl, h0.objs hobj⟩

theorem call46 {m : Mem} {p t mm : Nat} {ns : List Nd} {fr : Heap} (h : Sep m (tab p t mm ns fr)) {a v : Nat} (ha : a < ns.length + 2) (hb : ns.length < 1152921504606846976) (hvf : v < far) :
    Tells (Am.Call T 46 [.ptr p 0 0, vI a, vI v] m) fun r m' => r = .tuple [vI (waysN ns a v).1, vI (waysN ns a v).2] ∧ Sep m' (tab p t mm ns fr) := by
  refine Tells.fn 0 rfl F46_ok rfl ?_
  show Tells (S46 (Am.Call T) 0 m (.ptr p 0 0) (vI a) (vI v)) _
  have h0 : Sep ⟨m.objs, none⟩ (tab p t mm ns fr) := h.objs rfl
  unfold S46 G46
  refine Tells.call rfl (call45 h0 ha hb) ?_
  rintro _ m1 ⟨rfl, h1⟩
  by_cases hv : top ns a = v
  · have h2 : ¬ a < 2 := fun h2 => by rw [top_const h2] at hv; omega
    obtain ⟨n, hn⟩ : ∃ n, ns[a - 2]? = some n := ⟨_, List.getElem?_eq_getElem (by omega)⟩
    refine .neq ?_
    refine .condF (by first | assumption | omega) ?_
    refine .nilP ?_
    refine .fieldAddr ?_
    refine .load1 ‹_› .z (by rfl) ?_
    refine .sub (by rfl) (by omega) ?_
    refine .indexL (j := a - 2) (by omega) (by rw [List.getElem?_map, hn]; rfl) ?_
    refine .fieldAddrC1 (by rfl) ?_
    refine .loadCF ?_
    refine .nilP ?_
    refine .fieldAddr ?_
    refine .load1 ‹_› .z (by rfl) ?_
    refine .sub (by rfl) (by omega) ?_
    refine .indexL (j := a - 2) (by omega) (by rw [List.getElem?_map, hn]; rfl) ?_
    refine .fieldAddrC1 (by rfl) ?_
    refine .loadCF ?_
    refine .ret2 (by rfl) ?_; intro m' hobj
    refine ⟨?_, h1.objs hobj⟩
    simp only [waysN, if_pos hv, hn]
    rfl
  · refine .neq ?_
    refine .condT (by first | assumption | omega) ?_
    refine .ret2 (by rfl) ?_; intro m' hobj
    refine ⟨?_, h1.objs hobj⟩
    simp only [waysN, if_neg hv]
    rfl

/-! keys -/
theorem findKey_enc {κ β : Type} [DecidableEq κ] {q : EQ} {e : κ → AV} {g : β → AV} (he : ∀ a b, AV.eqv q (e a) (e b) = some (decide (a = b))) {k : κ} : ∀ {es : List (κ × β)}, findKey q (e k) (es.map fun x => (e x.1, g x.2)) = some ((lookN k es).map g) := by
  intro es
  induction es with
  | nil => rfl
  | cons x es ih =>
    obtain ⟨y, b⟩ := x
    simp only [List.map_cons, findKey, he, lookN]
    by_cases h : k = y
    · rw [decide_eq_true h, if_pos h]; rfl
    · rw [decide_eq_false h, if_neg h]; exact ih
theorem putKey_enc {κ β : Type} [DecidableEq κ] {q : EQ} {e : κ → AV} {g : β → AV} (he : ∀ a b, AV.eqv q (e a) (e b) = some (decide (a = b))) {k : κ} {b : β} : ∀ {es : List (κ × β)}, putKey q (e k) (g b) (es.map fun x => (e x.1, g x.2)) = some ((aputN k b es).map fun x => (e x.1, g x.2)) := by
  intro es
  induction es with
  | nil => rfl
  | cons x es ih =>
    obtain ⟨y, c⟩ := x
    simp only [List.map_cons, putKey, he, aputN]
    by_cases h : k = y
    · rw [decide_eq_true h, if_pos h]; rfl
    · rw [decide_eq_false h, if_neg h]
      simp only [ih, List.map_cons]
theorem eqv_nd (a b : Nd) : AV.eqv ⟨[.i, .i, .i], true⟩ (encNd a) (encNd b) = some (decide (a = b)) := by
  obtain ⟨a1, a2, a3⟩ := a
  obtain ⟨b1, b2, b3⟩ := b
  simp only [AV.eqv, AV.isAgg, and_self, if_true, AV.cells, AV.eqCells, AV.eq1, Option.some.injEq, Nd.mk.injEq]
  rw [Bool.eq_iff_iff]
  simp only [Bool.and_eq_true, beq_iff_eq, decide_eq_true_eq, and_true, Int.natCast_inj]
abbrev encP (k : Nat × Nat) : AV := .agg [vI k.1, vI k.2]
theorem eqv_p (a b : Nat × Nat) : AV.eqv ⟨[.i, .i], true⟩ (encP a) (encP b) = some (decide (a = b)) := by
  obtain ⟨a1, a2⟩ := a
  obtain ⟨b1, b2⟩ := b
  simp only [AV.eqv, AV.isAgg, and_self, if_true, AV.cells, AV.eqCells, AV.eq1, Option.some.injEq, Prod.mk.injEq]
  rw [Bool.eq_iff_iff]
  simp only [Bool.and_eq_true, beq_iff_eq, decide_eq_true_eq, and_true, Int.natCast_inj]
theorem eqv_n (a b : Nat) : AV.eqv ⟨[.i], false⟩ (vI a) (vI b) = some (decide (a = b)) := by
  simp only [AV.eqv, AV.isAgg, and_self, if_true, AV.cells, AV.eqCells, AV.eq1, Option.some.injEq]
  rw [Bool.eq_iff_iff]
  simp only [Bool.and_eq_true, beq_iff_eq, decide_eq_true_eq, and_true, Int.natCast_inj]

theorem lookN_zip {n : Nd} : ∀ {ns : List Nd} {k : Nat}, lookN n (ns.zipIdx k) = fnd n k ns := by
  intro ns
  induction ns with
  | nil => intro k; rfl
  | cons x ns ih => intro k; simp only [List.zipIdx_cons, lookN, fnd, ih]
theorem aputN_zip {n : Nd} : ∀ {ns : List Nd} {k : Nat}, fnd n k ns = none → aputN n (k + ns.length) (ns.zipIdx k) = (ns ++ [n]).zipIdx k := by
  intro ns
  induction ns with
  | nil => intro k _; rfl
  | cons x ns ih =>
    intro k h
    simp only [fnd] at h
    split at h
    · cases h
    · rename_i hx
      simp only [List.zipIdx_cons, aputN, if_neg hx, List.cons_append, List.length_cons]
      rw [show k + (ns.length + 1) = k + 1 + ns.length by omega, ih h]
theorem find_tab {n : Nd} {ns : List Nd} : findKey ⟨[.i, .i, .i], true⟩ (encNd n) (tabEs ns) = some ((fnd n 2 ns).map vI) := by
  rw [tabEs, findKey_enc eqv_nd, lookN_zip]
theorem put_tab {n : Nd} {ns : List Nd} (h : fnd n 2 ns = none) : putKey ⟨[.i, .i, .i], true⟩ (encNd n) (vI (2 + ns.length)) (tabEs ns) = some (tabEs (ns ++ [n])) := by
  rw [tabEs, putKey_enc eqv_nd, aputN_zip h]; rfl

theorem fnd_snoc {n : Nd} : ∀ {ns : List Nd} {k : Nat}, fnd n k ns = none → fnd n k (ns ++ [n]) = some (k + ns.length) := by
  intro ns
  induction ns with
  | nil => intro k _; simp [fnd]
  | cons x ns ih =>
    intro k h
    simp only [fnd] at h
    split at h
    · cases h
    · rename_i hx
      simp only [List.cons_append, fnd, if_neg hx, List.length_cons]
      rw [ih h]
      congr 1
      omega

/-- One node is made. -/
theorem call35 {m : Mem} {p t mm : Nat} {ns : List Nd} {fr : Heap} (hs : Sep m (tab p t mm ns fr)) {n : Nd} (hb : ns.length < 1099511627776) :
    Tells (Am.Call T 35 [.ptr p 0 0, encNd n] m) fun r m' => r = vI (mkN ns n).1 ∧ Sep m' (tab p t mm (mkN ns n).2 fr) := by
  refine Tells.fn 0 rfl F35_ok rfl ?_
  show Tells (S35 (Am.Call T) 0 m (.ptr p 0 0) (encNd n)) _
  have h : Sep ⟨m.objs, none⟩ (tab p t mm ns fr) := hs.objs rfl
  unfold S35 G35
  by_cases he : n.lo = n.hi
  · refine .boxA ‹_› ?_
    intro nw m h
    refine .fieldAddr ?_
    refine .load1 ‹_› .z (by rfl) ?_
    refine .fieldAddr ?_
    refine .load1 ‹_› .z (by rfl) ?_
    refine .eql ?_
    refine .condT (by first | assumption | omega) ?_
    refine .fieldAddr ?_
    refine .load1 ‹_› .z (by rfl) ?_
    refine .ret1 (by rfl) ?_
    intro m hobj
    simp only [mkN, if_pos he]
    exact ⟨trivial, (h.objs hobj).tail⟩
  · cases hf : fnd n 2 ns with
    | some k =>
      have hk : findKey ⟨[.i, .i, .i], true⟩ (encNd n) (tabEs ns) = some (some (vI k)) := by rw [find_tab, hf]; rfl
      refine .boxA ‹_› ?_
      intro nw m h
      refine .fieldAddr ?_
      refine .load1 ‹_› .z (by rfl) ?_
      refine .fieldAddr ?_
      refine .load1 ‹_› .z (by rfl) ?_
      refine .eql ?_
      refine .condF (by first | assumption | omega) ?_
      refine .nilP ?_
      refine .fieldAddr ?_
      refine .load1 ‹_› (.s .z) (by rfl) ?_
      refine .loadA ‹_› .z (by rfl) ?_
      refine .lookup2 ‹_› (.s (.s (.s .z))) (by rfl) hk ?_
      refine .extract (by rfl) ?_
      refine .extract (by rfl) ?_
      refine .not ?_
      refine .condff ?_
      refine .nilP ?_
      refine .fieldAddr ?_
      refine .load1 ‹_› (.s .z) (by rfl) ?_
      refine .loadA ‹_› .z (by rfl) ?_
      refine .lookup1 ‹_› (.s (.s (.s .z))) (by rfl) hk ?_
      refine .ret1 (by rfl) ?_
      intro m hobj
      simp only [mkN, if_neg he, hf]
      exact ⟨trivial, (h.objs hobj).tail⟩
    | none =>
      have hk : findKey ⟨[.i, .i, .i], true⟩ (encNd n) (tabEs ns) = some none := by rw [find_tab, hf]; rfl
      have hk2 : findKey ⟨[.i, .i, .i], true⟩ (encNd n) (tabEs (ns ++ [n])) = some (some (vI (2 + ns.length))) := by rw [find_tab, fnd_snoc hf]; rfl
      refine .boxA ‹_› ?_
      intro nw m h
      refine .fieldAddr ?_
      refine .load1 ‹_› .z (by rfl) ?_
      refine .fieldAddr ?_
      refine .load1 ‹_› .z (by rfl) ?_
      refine .eql ?_
      refine .condF (by first | assumption | omega) ?_
      refine .nilP ?_
      refine .fieldAddr ?_
      refine .load1 ‹_› (.s .z) (by rfl) ?_
      refine .loadA ‹_› .z (by rfl) ?_
      refine .lookup2n ‹_› (.s (.s (.s .z))) (by rfl) hk ?_
      refine .extract (by rfl) ?_
      refine .extract (by rfl) ?_
      refine .not ?_
      refine .condtt ?_
      refine .nilP ?_
      refine .fieldAddr ?_
      refine .load1 ‹_› (.s .z) (by rfl) ?_
      refine .loadA ‹_› .z (by rfl) ?_
      refine .bsA (by rfl) (by rfl) (by rfl) (by decide) (by decide) ?_
      refine .append1 ‹_› (.s (.s .z)) (by simp) (by simp only [room]; omega) (by decide) (by rfl) (by rfl) ?_
      intro m h
      refine .nilP ?_
      refine .fieldAddr ?_
      refine .store20 ‹_› (.s .z) (by rfl) (by rfl) ?_
      intro m h
      refine .stay (by first | exact stayK_nil | (repeat first | exact stayK_nil | refine stayK_cons ?_ ?_ | refine stayK_not ?_ | exact stayN_zero | refine stayN_succ (by rfl) (by first | exact Sep.load1 ‹_› (by first | exact .z | exact .s .z | exact .s (.s .z) | exact .s (.s (.s .z)) | exact .s (.s (.s (.s .z))) | exact .s (.s (.s (.s (.s .z)))) | exact .s (.s (.s (.s (.s (.s .z))))) | exact .s (.s (.s (.s (.s (.s (.s .z)))))) | exact .s (.s (.s (.s (.s (.s (.s (.s .z))))))) | exact .s (.s (.s (.s (.s (.s (.s (.s (.s .z)))))))) | exact .s (.s (.s (.s (.s (.s (.s (.s (.s (.s .z))))))))) | exact .s (.s (.s (.s (.s (.s (.s (.s (.s (.s (.s .z)))))))))) | exact .s (.s (.s (.s (.s (.s (.s (.s (.s (.s (.s (.s .z))))))))))) | exact .s (.s (.s (.s (.s (.s (.s (.s (.s (.s (.s (.s (.s .z))))))))))))) (by rfl) | exact Sep.loadA ‹_› (by first | exact .z | exact .s .z | exact .s (.s .z) | exact .s (.s (.s .z)) | exact .s (.s (.s (.s .z))) | exact .s (.s (.s (.s (.s .z)))) | exact .s (.s (.s (.s (.s (.s .z))))) | exact .s (.s (.s (.s (.s (.s (.s .z)))))) | exact .s (.s (.s (.s (.s (.s (.s (.s .z))))))) | exact .s (.s (.s (.s (.s (.s (.s (.s (.s .z)))))))) | exact .s (.s (.s (.s (.s (.s (.s (.s (.s (.s .z))))))))) | exact .s (.s (.s (.s (.s (.s (.s (.s (.s (.s (.s .z)))))))))) | exact .s (.s (.s (.s (.s (.s (.s (.s (.s (.s (.s (.s .z))))))))))) | exact .s (.s (.s (.s (.s (.s (.s (.s (.s (.s (.s (.s (.s .z))))))))))))) (by rfl) | rfl) ?_)) ?_
      refine .nilP ?_
      refine .fieldAddr ?_
      refine .load1 ‹_› (.s .z) (by rfl) ?_
      refine .loadA ‹_› .z (by rfl) ?_
      refine .nilP ?_
      refine .fieldAddr ?_
      refine .load1 ‹_› (.s .z) (by rfl) ?_
      refine .lenL ?_
      refine .add (c := ((2 + ns.length : Nat) : Int)) (by simp; omega) (by omega) ?_
      refine .mapUpdate ‹_› (.s (.s (.s .z))) (by rfl) (put_tab hf) ?_
      intro m h
      refine .stay (by first | exact stayK_nil | (repeat first | exact stayK_nil | refine stayK_cons ?_ ?_ | refine stayK_not ?_ | exact stayN_zero | refine stayN_succ (by rfl) (by first | exact Sep.load1 ‹_› (by first | exact .z | exact .s .z | exact .s (.s .z) | exact .s (.s (.s .z)) | exact .s (.s (.s (.s .z))) | exact .s (.s (.s (.s (.s .z)))) | exact .s (.s (.s (.s (.s (.s .z))))) | exact .s (.s (.s (.s (.s (.s (.s .z)))))) | exact .s (.s (.s (.s (.s (.s (.s (.s .z))))))) | exact .s (.s (.s (.s (.s (.s (.s (.s (.s .z)))))))) | exact .s (.s (.s (.s (.s (.s (.s (.s (.s (.s .z))))))))) | exact .s (.s (.s (.s (.s (.s (.s (.s (.s (.s (.s .z)))))))))) | exact .s (.s (.s (.s (.s (.s (.s (.s (.s (.s (.s (.s .z))))))))))) | exact .s (.s (.s (.s (.s (.s (.s (.s (.s (.s (.s (.s (.s .z))))))))))))) (by rfl) | exact Sep.loadA ‹_› (by first | exact .z | exact .s .z | exact .s (.s .z) | exact .s (.s (.s .z)) | exact .s (.s (.s (.s .z))) | exact .s (.s (.s (.s (.s .z)))) | exact .s (.s (.s (.s (.s (.s .z))))) | exact .s (.s (.s (.s (.s (.s (.s .z)))))) | exact .s (.s (.s (.s (.s (.s (.s (.s .z))))))) | exact .s (.s (.s (.s (.s (.s (.s (.s (.s .z)))))))) | exact .s (.s (.s (.s (.s (.s (.s (.s (.s (.s .z))))))))) | exact .s (.s (.s (.s (.s (.s (.s (.s (.s (.s (.s .z)))))))))) | exact .s (.s (.s (.s (.s (.s (.s (.s (.s (.s (.s (.s .z))))))))))) | exact .s (.s (.s (.s (.s (.s (.s (.s (.s (.s (.s (.s (.s .z))))))))))))) (by rfl) | rfl) ?_)) ?_
      refine .nilP ?_
      refine .fieldAddr ?_
      refine .load1 ‹_› (.s .z) (by rfl) ?_
      refine .loadA ‹_› .z (by rfl) ?_
      refine .lookup1 ‹_› (.s (.s (.s .z))) (by rfl) hk2 ?_
      refine .ret1 (by rfl) ?_
      intro m hobj
      simp only [mkN, if_neg he, hf]
      refine ⟨by rw [Nat.add_comm], ?_⟩
      have := (h.objs hobj).tail
      simpa only [tab, List.map_append, List.map_cons, List.map_nil, List.length_append, List.length_cons, List.length_nil, Nat.zero_add] using this

end Go.Proofs.P16
namespace Go.Proofs.P16
set_option linter.all false
open Go Go.Am Go.Bdd
attribute [local irreducible] loadK storeK newK boxK tipK makeMapK buildTK buildK buildSliceK nilK binK unK condK convK eqvK pickK gK gDK vK extractK fieldK lookupK mapUpdateK appendK min2K max2K retK makeSliceK freezeK bytesK loopV blkK stayK sameK rangeK callK aFieldAddr aIndexAddr aIndexAddrA aLen aIndex aSlice

abbrev encE (c : Option Nat) : AV := match c with | some c => .tuple [vI c, .bool true] | none => .tuple [vI 0, .bool false]

theorem call29 {m : Mem} {l : Heap} (hs : Sep m l) {a b : Nat} : Tells (Am.Call T 29 [vI a, vI b] m) fun r m' => r = encE (andE a b) ∧ Sep m' l := by
  refine Tells.fn 0 rfl F29_ok rfl ?_
  show Tells (S29 (Am.Call T) 0 m (vI a) (vI b)) _
  have h : Sep ⟨m.objs, none⟩ l := hs.objs rfl
  unfold S29 G29
  by_cases h1 : a = 0
  · refine .eql ?_
    refine .gTF (by rfl) (by first | assumption | omega) ?_
    refine .gTF (by rfl) (by first | assumption | omega) ?_
    refine .pickT (by first | assumption | omega) ?_
    refine .condtt ?_
    refine .ret2 (by rfl) ?_; intro m' hobj
    exact ⟨by first | (simp only [andE, if_pos (Or.inl h1)]; rfl) | simp only [andE, if_pos (Or.inl h1)], h.objs hobj⟩
  · by_cases h2 : b = 0
    · refine .eql ?_
      refine .gF (by rfl) (by first | assumption | omega) ?_
      refine .gF (by rfl) (by first | assumption | omega) ?_
      refine .eql ?_
      refine .pickF (by first | assumption | omega) ?_
      refine .condT (by first | assumption | omega) ?_
      refine .ret2 (by rfl) ?_; intro m' hobj
      exact ⟨by first | (simp only [andE, if_pos (Or.inr h2)]; rfl) | simp only [andE, if_pos (Or.inr h2)], h.objs hobj⟩
    · have h3 : ¬ (a = 0 ∨ b = 0) := by omega
      by_cases h4 : a = 1
      · refine .eql ?_
        refine .gF (by rfl) (by first | assumption | omega) ?_
        refine .gF (by rfl) (by first | assumption | omega) ?_
        refine .eql ?_
        refine .pickF (by first | assumption | omega) ?_
        refine .condF (by first | assumption | omega) ?_
        refine .eql ?_
        refine .condT (by first | assumption | omega) ?_
        refine .ret2 (by rfl) ?_; intro m' hobj
        exact ⟨by first | (simp only [andE, if_neg h3, if_pos h4]; rfl) | simp only [andE, if_neg h3, if_pos h4], h.objs hobj⟩
      · by_cases h5 : b = 1
        · refine .eql ?_
          refine .gF (by rfl) (by first | assumption | omega) ?_
          refine .gF (by rfl) (by first | assumption | omega) ?_
          refine .eql ?_
          refine .pickF (by first | assumption | omega) ?_
          refine .condF (by first | assumption | omega) ?_
          refine .eql ?_
          refine .condF (by first | assumption | omega) ?_
          refine .eql ?_
          refine .gTF (by rfl) (by first | assumption | omega) ?_
          refine .gTF (by rfl) (by first | assumption | omega) ?_
          refine .gTF (by rfl) (by first | assumption | omega) ?_
          refine .pickT (by first | assumption | omega) ?_
          refine .condtt ?_
          refine .ret2 (by rfl) ?_; intro m' hobj
          exact ⟨by first | (simp only [andE, if_neg h3, if_neg h4, if_pos (Or.inl h5)]; rfl) | simp only [andE, if_neg h3, if_neg h4, if_pos (Or.inl h5)], h.objs hobj⟩
        · by_cases h6 : a = b
          · refine .eql ?_
            refine .gF (by rfl) (by first | assumption | omega) ?_
            refine .gF (by rfl) (by first | assumption | omega) ?_
            refine .eql ?_
            refine .pickF (by first | assumption | omega) ?_
            refine .condF (by first | assumption | omega) ?_
            refine .eql ?_
            refine .condF (by first | assumption | omega) ?_
            refine .eql ?_
            refine .gF (by rfl) (by first | assumption | omega) ?_
            refine .gF (by rfl) (by first | assumption | omega) ?_
            refine .gF (by rfl) (by first | assumption | omega) ?_
            refine .eql ?_
            refine .pickF (by first | assumption | omega) ?_
            refine .condT (by first | assumption | omega) ?_
            refine .ret2 (by rfl) ?_; intro m' hobj
            exact ⟨by first | (simp only [andE, if_neg h3, if_neg h4, if_pos (Or.inr h6)]; rfl) | simp only [andE, if_neg h3, if_neg h4, if_pos (Or.inr h6)], h.objs hobj⟩
          · have h7 : ¬ (b = 1 ∨ a = b) := by omega
            refine .eql ?_
            refine .gF (by rfl) (by first | assumption | omega) ?_
            refine .gF (by rfl) (by first | assumption | omega) ?_
            refine .eql ?_
            refine .pickF (by first | assumption | omega) ?_
            refine .condF (by first | assumption | omega) ?_
            refine .eql ?_
            refine .condF (by first | assumption | omega) ?_
            refine .eql ?_
            refine .gF (by rfl) (by first | assumption | omega) ?_
            refine .gF (by rfl) (by first | assumption | omega) ?_
            refine .gF (by rfl) (by first | assumption | omega) ?_
            refine .eql ?_
            refine .pickF (by first | assumption | omega) ?_
            refine .condF (by first | assumption | omega) ?_
            refine .ret2 (by rfl) ?_; intro m' hobj
            exact ⟨by first | (simp only [andE, if_neg h3, if_neg h4, if_neg h7]; rfl) | simp only [andE, if_neg h3, if_neg h4, if_neg h7], h.objs hobj⟩

theorem call31 {m : Mem} {l : Heap} (hs : Sep m l) {a b : Nat} : Tells (Am.Call T 31 [vI a, vI b] m) fun r m' => r = encE (orE a b) ∧ Sep m' l := by
  refine Tells.fn 0 rfl F31_ok rfl ?_
  show Tells (S31 (Am.Call T) 0 m (vI a) (vI b)) _
  have h : Sep ⟨m.objs, none⟩ l := hs.objs rfl
  unfold S31 G31
  by_cases h1 : a = 1
  · refine .eql ?_
    refine .gTF (by rfl) (by first | assumption | omega) ?_
    refine .gTF (by rfl) (by first | assumption | omega) ?_
    refine .pickT (by first | assumption | omega) ?_
    refine .condtt ?_
    refine .ret2 (by rfl) ?_; intro m' hobj
    exact ⟨by first | (simp only [orE, if_pos (Or.inl h1)]; rfl) | simp only [orE, if_pos (Or.inl h1)], h.objs hobj⟩
  · by_cases h2 : b = 1
    · refine .eql ?_
      refine .gF (by rfl) (by first | assumption | omega) ?_
      refine .gF (by rfl) (by first | assumption | omega) ?_
      refine .eql ?_
      refine .pickF (by first | assumption | omega) ?_
      refine .condT (by first | assumption | omega) ?_
      refine .ret2 (by rfl) ?_; intro m' hobj
      exact ⟨by first | (simp only [orE, if_pos (Or.inr h2)]; rfl) | simp only [orE, if_pos (Or.inr h2)], h.objs hobj⟩
    · have h3 : ¬ (a = 1 ∨ b = 1) := by omega
      by_cases h4 : a = 0
      · refine .eql ?_
        refine .gF (by rfl) (by first | assumption | omega) ?_
        refine .gF (by rfl) (by first | assumption | omega) ?_
        refine .eql ?_
        refine .pickF (by first | assumption | omega) ?_
        refine .condF (by first | assumption | omega) ?_
        refine .eql ?_
        refine .condT (by first | assumption | omega) ?_
        refine .ret2 (by rfl) ?_; intro m' hobj
        exact ⟨by first | (simp only [orE, if_neg h3, if_pos h4]; rfl) | simp only [orE, if_neg h3, if_pos h4], h.objs hobj⟩
      · by_cases h5 : b = 0
        · refine .eql ?_
          refine .gF (by rfl) (by first | assumption | omega) ?_
          refine .gF (by rfl) (by first | assumption | omega) ?_
          refine .eql ?_
          refine .pickF (by first | assumption | omega) ?_
          refine .condF (by first | assumption | omega) ?_
          refine .eql ?_
          refine .condF (by first | assumption | omega) ?_
          refine .eql ?_
          refine .gTF (by rfl) (by first | assumption | omega) ?_
          refine .gTF (by rfl) (by first | assumption | omega) ?_
          refine .gTF (by rfl) (by first | assumption | omega) ?_
          refine .pickT (by first | assumption | omega) ?_
          refine .condtt ?_
          refine .ret2 (by rfl) ?_; intro m' hobj
          exact ⟨by first | (simp only [orE, if_neg h3, if_neg h4, if_pos (Or.inl h5)]; rfl) | simp only [orE, if_neg h3, if_neg h4, if_pos (Or.inl h5)], h.objs hobj⟩
        · by_cases h6 : a = b
          · refine .eql ?_
            refine .gF (by rfl) (by first | assumption | omega) ?_
            refine .gF (by rfl) (by first | assumption | omega) ?_
            refine .eql ?_
            refine .pickF (by first | assumption | omega) ?_
            refine .condF (by first | assumption | omega) ?_
            refine .eql ?_
            refine .condF (by first | assumption | omega) ?_
            refine .eql ?_
            refine .gF (by rfl) (by first | assumption | omega) ?_
            refine .gF (by rfl) (by first | assumption | omega) ?_
            refine .gF (by rfl) (by first | assumption | omega) ?_
            refine .eql ?_
            refine .pickF (by first | assumption | omega) ?_
            refine .condT (by first | assumption | omega) ?_
            refine .ret2 (by rfl) ?_; intro m' hobj
            exact ⟨by first | (simp only [orE, if_neg h3, if_neg h4, if_pos (Or.inr h6)]; rfl) | simp only [orE, if_neg h3, if_neg h4, if_pos (Or.inr h6)], h.objs hobj⟩
          · have h7 : ¬ (b = 0 ∨ a = b) := by omega
            refine .eql ?_
            refine .gF (by rfl) (by first | assumption | omega) ?_
            refine .gF (by rfl) (by first | assumption | omega) ?_
            refine .eql ?_
            refine .pickF (by first | assumption | omega) ?_
            refine .condF (by first | assumption | omega) ?_
            refine .eql ?_
            refine .condF (by first | assumption | omega) ?_
            refine .eql ?_
            refine .gF (by rfl) (by first | assumption | omega) ?_
            refine .gF (by rfl) (by first | assumption | omega) ?_
            refine .gF (by rfl) (by first | assumption | omega) ?_
            refine .eql ?_
            refine .pickF (by first | assumption | omega) ?_
            refine .condF (by first | assumption | omega) ?_
            refine .ret2 (by rfl) ?_; intro m' hobj
            exact ⟨by first | (simp only [orE, if_neg h3, if_neg h4, if_neg h7]; rfl) | simp only [orE, if_neg h3, if_neg h4, if_neg h7], h.objs hobj⟩

/-- The opposite. -/
theorem call30 {K : Nat} (hK : K ≤ 32) : ∀ (f : Nat) {m : Mem} {p t mm : Nat} {ns : List Nd} {fr : Heap} {a : Nat} {ns' : List Nd} {r : Nat}, oppF f ns a = some (ns', r) → a < f → Tb K ns → a < ns.length + 2 → ns.length + cap K (top ns a) < 1099511627776 → Sep m (tab p t mm ns fr) →
    Tells (Am.Call T 30 [.ptr p 0 0, vI a] m) fun x m' => x = vI r ∧ Sep m' (tab p t mm ns' fr) := by
  intro f
  induction f with
  | zero => intro m p t mm ns fr a ns' r h; cases h
  | succ f ih =>
    intro m p t mm ns fr a ns' r hr hf ht ha hb hs
    refine Tells.fn 0 rfl F30_ok rfl ?_
    show Tells (S30 (Am.Call T) 0 m (.ptr p 0 0) (vI a)) _
    have h : Sep ⟨m.objs, none⟩ (tab p t mm ns fr) := hs.objs rfl
    unfold S30 G30
    unfold oppF at hr
    by_cases h2 : a < 2
    · rw [if_pos h2] at hr
      cases hr
      refine .lss ?_
      refine .condT (by first | assumption | omega) ?_
      refine .sub (c := ((1 - a : Nat) : Int)) (by omega) (by omega) ?_
      refine .ret1 (by rfl) ?_
      intro m hobj
      exact ⟨rfl, h.objs hobj⟩
    · rw [if_neg h2] at hr
      obtain ⟨n, hn⟩ := ht.wf.at (by omega) ha
      have e1 := hn.lo
      have e2 := hn.hi
      have hg := hn.get
      have htop := hn.tp
      have v1 := hn.vlo
      have v2 := hn.vhi
      have hvk := ht.top_lt hn
      have c4 := cap_two (K := K) (t := n.v) (a := top ns n.lo) (b := top ns n.hi) hvk v1 v2
      simp only [hg] at hr
      obtain ⟨ns1, lo, p1, p2⟩ := opp_spec f (show n.lo < f by omega) ht (by omega)
      have p3 := pre_len p2.pre
      have p4 := p2.cnt
      rw [p1] at hr; simp only at hr
      have t1 : top ns1 n.hi = top ns n.hi := top_pre p2.pre (by omega)
      obtain ⟨ns2, hi, q1, q2⟩ := opp_spec f (show n.hi < f by omega) p2.tb (by omega)
      have q4 := q2.cnt
      rw [t1] at q4
      rw [htop] at hb
      rw [q1] at hr; simp only at hr
      cases hr
      refine .lss ?_
      refine .condF (by first | assumption | omega) ?_
      refine .nilP ?_
      refine .fieldAddr ?_
      refine .load1 ‹_› .z (by rfl) ?_
      refine .sub (by rfl) (by omega) ?_
      refine .indexL (j := a - 2) (by omega) (by rw [List.getElem?_map, hg]; rfl) ?_
      refine .loadCA (by rfl) ?_
      refine .new ‹_› ?_
      intro nw m h
      refine .storeA ‹_› .z (by rfl) (by rfl) ?_
      intro m h
      refine .fieldAddr ?_
      refine .load1 ‹_› .z (by rfl) ?_
      refine Tells.call rfl (ih (fr := _ :: fr) p1 (by omega) ht (by omega) (by omega) (h.perm (List.perm_middle (l₁ := [_, _, _])).symm)) ?_
      rintro _ m1 ⟨rfl, h1⟩
      refine .fieldAddr ?_
      refine .load1 ‹_› (.s (.s (.s .z))) (by rfl) ?_
      refine .fieldAddr ?_
      refine .load1 ‹_› (.s (.s (.s .z))) (by rfl) ?_
      refine Tells.call rfl (ih (fr := _ :: fr) q1 (by omega) p2.tb (by omega) (by rw [t1]; omega) h1) ?_
      rintro _ m2 ⟨rfl, h2⟩
      refine .build3 ?_
      refine Tells.call rfl (call35 h2 (n := ⟨n.v, lo, hi⟩) (by omega)) ?_
      rintro _ m3 ⟨rfl, h3⟩
      refine .stay (by first | exact stayK_nil | (repeat first | exact stayK_nil | refine stayK_cons ?_ ?_ | refine stayK_not ?_ | exact stayN_zero | refine stayN_succ (by rfl) (by first | exact Sep.load1 ‹_› (by first | exact .z | exact .s .z | exact .s (.s .z) | exact .s (.s (.s .z)) | exact .s (.s (.s (.s .z))) | exact .s (.s (.s (.s (.s .z)))) | exact .s (.s (.s (.s (.s (.s .z))))) | exact .s (.s (.s (.s (.s (.s (.s .z)))))) | exact .s (.s (.s (.s (.s (.s (.s (.s .z))))))) | exact .s (.s (.s (.s (.s (.s (.s (.s (.s .z)))))))) | exact .s (.s (.s (.s (.s (.s (.s (.s (.s (.s .z))))))))) | exact .s (.s (.s (.s (.s (.s (.s (.s (.s (.s (.s .z)))))))))) | exact .s (.s (.s (.s (.s (.s (.s (.s (.s (.s (.s (.s .z))))))))))) | exact .s (.s (.s (.s (.s (.s (.s (.s (.s (.s (.s (.s (.s .z))))))))))))) (by rfl) | exact Sep.loadA ‹_› (by first | exact .z | exact .s .z | exact .s (.s .z) | exact .s (.s (.s .z)) | exact .s (.s (.s (.s .z))) | exact .s (.s (.s (.s (.s .z)))) | exact .s (.s (.s (.s (.s (.s .z))))) | exact .s (.s (.s (.s (.s (.s (.s .z)))))) | exact .s (.s (.s (.s (.s (.s (.s (.s .z))))))) | exact .s (.s (.s (.s (.s (.s (.s (.s (.s .z)))))))) | exact .s (.s (.s (.s (.s (.s (.s (.s (.s (.s .z))))))))) | exact .s (.s (.s (.s (.s (.s (.s (.s (.s (.s (.s .z)))))))))) | exact .s (.s (.s (.s (.s (.s (.s (.s (.s (.s (.s (.s .z))))))))))) | exact .s (.s (.s (.s (.s (.s (.s (.s (.s (.s (.s (.s (.s .z))))))))))))) (by rfl) | rfl) ?_)) ?_
      refine .ret1 (by rfl) ?_
      intro m hobj
      exact ⟨rfl, ((h3.objs hobj).perm (List.perm_middle (l₁ := [_, _, _]))).tail⟩

/-- A variable as it is told. -/
theorem call38 {K v : Nat} {is : Bool} (hv : v < far) : ∀ (f : Nat) {m : Mem} {p t mm : Nat} {ns : List Nd} {fr : Heap} {a : Nat} {ns' : List Nd} {r : Nat}, withF v is f ns a = some (ns', r) → a < f → Tb K ns → a < ns.length + 2 → ns.length + cap K (top ns a) < 1099511627776 → Sep m (tab p t mm ns fr) →
    Tells (Am.Call T 38 [.ptr p 0 0, vI a, vI v, .bool is] m) fun x m' => x = vI r ∧ Sep m' (tab p t mm ns' fr) := by
  intro f
  induction f with
  | zero => intro m p t mm ns fr a ns' r h; cases h
  | succ f ih =>
    intro m p t mm ns fr a ns' r hr hf ht ha hb hs
    refine Tells.fn 0 rfl F38_ok rfl ?_
    show Tells (S38 (Am.Call T) 0 m (.ptr p 0 0) (vI a) (vI v) (.bool is)) _
    have h : Sep ⟨m.objs, none⟩ (tab p t mm ns fr) := hs.objs rfl
    unfold S38 G38
    unfold withF at hr
    refine Tells.call rfl (call45 h ha (by omega)) ?_
    rintro _ m1 ⟨rfl, h1⟩
    by_cases h2 : v < top ns a
    · rw [if_pos h2] at hr
      cases hr
      refine .gtr ?_
      refine .condT (by first | assumption | omega) ?_
      refine .ret1 (by rfl) ?_
      intro m hobj
      exact ⟨rfl, h1.objs hobj⟩
    · rw [if_neg h2] at hr
      have ha2 : ¬ a < 2 := fun h0 => h2 (by rw [top_const h0]; exact hv)
      obtain ⟨n, hn⟩ := ht.wf.at (by omega) ha
      have e1 := hn.lo
      have e2 := hn.hi
      have hg := hn.get
      have htop := hn.tp
      have v1 := hn.vlo
      have v2 := hn.vhi
      have hvk := ht.top_lt hn
      have c4 := cap_two (K := K) (t := n.v) (a := top ns n.lo) (b := top ns n.hi) hvk v1 v2
      simp only [hg] at hr
      by_cases h8 : n.v = v
      · rw [if_pos h8] at hr
        cases hr
        cases is
        · refine .gtr ?_
          refine .condF (by first | assumption | omega) ?_
          refine .nilP ?_
          refine .fieldAddr ?_
          refine .load1 ‹_› .z (by rfl) ?_
          refine .sub (by rfl) (by omega) ?_
          refine .indexL (j := a - 2) (by omega) (by rw [List.getElem?_map, hg]; rfl) ?_
          refine .loadCA (by rfl) ?_
          refine .new ‹_› ?_
          intro nw m h
          refine .storeA ‹_› .z (by rfl) (by rfl) ?_
          intro m h
          refine .fieldAddr ?_
          refine .load1 ‹_› .z (by rfl) ?_
          refine .eql ?_
          refine .condT (by first | assumption | omega) ?_
          refine .condff ?_
          refine .fieldAddr ?_
          refine .load1 ‹_› .z (by rfl) ?_
          refine .ret1 (by rfl) ?_
          intro m hobj
          exact ⟨rfl, (h.objs hobj).tail⟩
        · refine .gtr ?_
          refine .condF (by first | assumption | omega) ?_
          refine .nilP ?_
          refine .fieldAddr ?_
          refine .load1 ‹_› .z (by rfl) ?_
          refine .sub (by rfl) (by omega) ?_
          refine .indexL (j := a - 2) (by omega) (by rw [List.getElem?_map, hg]; rfl) ?_
          refine .loadCA (by rfl) ?_
          refine .new ‹_› ?_
          intro nw m h
          refine .storeA ‹_› .z (by rfl) (by rfl) ?_
          intro m h
          refine .fieldAddr ?_
          refine .load1 ‹_› .z (by rfl) ?_
          refine .eql ?_
          refine .condT (by first | assumption | omega) ?_
          refine .condtt ?_
          refine .fieldAddr ?_
          refine .load1 ‹_› .z (by rfl) ?_
          refine .ret1 (by rfl) ?_
          intro m hobj
          exact ⟨rfl, (h.objs hobj).tail⟩
      · rw [if_neg h8] at hr
        obtain ⟨ns1, lo, p1, p2⟩ := with_spec (is := is) hv f (show n.lo < f by omega) ht (by omega)
        have p3 := pre_len p2.pre
        have p4 := p2.cnt
        rw [p1] at hr; simp only at hr
        have t1 : top ns1 n.hi = top ns n.hi := top_pre p2.pre (by omega)
        obtain ⟨ns2, hi, q1, q2⟩ := with_spec (is := is) hv f (show n.hi < f by omega) p2.tb (by omega)
        have q4 := q2.cnt
        rw [t1] at q4
        rw [htop] at hb
        rw [q1] at hr; simp only at hr
        cases hr
        refine .gtr ?_
        refine .condF (by first | assumption | omega) ?_
        refine .nilP ?_
        refine .fieldAddr ?_
        refine .load1 ‹_› .z (by rfl) ?_
        refine .sub (by rfl) (by omega) ?_
        refine .indexL (j := a - 2) (by omega) (by rw [List.getElem?_map, hg]; rfl) ?_
        refine .loadCA (by rfl) ?_
        refine .new ‹_› ?_
        intro nw m h
        refine .storeA ‹_› .z (by rfl) (by rfl) ?_
        intro m h
        refine .fieldAddr ?_
        refine .load1 ‹_› .z (by rfl) ?_
        refine .eql ?_
        refine .condF (by first | assumption | omega) ?_
        refine .fieldAddr ?_
        refine .load1 ‹_› .z (by rfl) ?_
        refine Tells.call rfl (ih (fr := _ :: fr) p1 (by omega) ht (by omega) (by omega) (h.perm (List.perm_middle (l₁ := [_, _, _])).symm)) ?_
        rintro _ m1 ⟨rfl, h1⟩
        refine .fieldAddr ?_
        refine .load1 ‹_› (.s (.s (.s .z))) (by rfl) ?_
        refine .fieldAddr ?_
        refine .load1 ‹_› (.s (.s (.s .z))) (by rfl) ?_
        refine Tells.call rfl (ih (fr := _ :: fr) q1 (by omega) p2.tb (by omega) (by rw [t1]; omega) h1) ?_
        rintro _ m2 ⟨rfl, h2⟩
        refine .build3 ?_
        refine Tells.call rfl (call35 h2 (n := ⟨n.v, lo, hi⟩) (by omega)) ?_
        rintro _ m3 ⟨rfl, h3⟩
        refine .stay (by first | exact stayK_nil | (repeat first | exact stayK_nil | refine stayK_cons ?_ ?_ | refine stayK_not ?_ | exact stayN_zero | refine stayN_succ (by rfl) (by first | exact Sep.load1 ‹_› (by first | exact .z | exact .s .z | exact .s (.s .z) | exact .s (.s (.s .z)) | exact .s (.s (.s (.s .z))) | exact .s (.s (.s (.s (.s .z)))) | exact .s (.s (.s (.s (.s (.s .z))))) | exact .s (.s (.s (.s (.s (.s (.s .z)))))) | exact .s (.s (.s (.s (.s (.s (.s (.s .z))))))) | exact .s (.s (.s (.s (.s (.s (.s (.s (.s .z)))))))) | exact .s (.s (.s (.s (.s (.s (.s (.s (.s (.s .z))))))))) | exact .s (.s (.s (.s (.s (.s (.s (.s (.s (.s (.s .z)))))))))) | exact .s (.s (.s (.s (.s (.s (.s (.s (.s (.s (.s (.s .z))))))))))) | exact .s (.s (.s (.s (.s (.s (.s (.s (.s (.s (.s (.s (.s .z))))))))))))) (by rfl) | exact Sep.loadA ‹_› (by first | exact .z | exact .s .z | exact .s (.s .z) | exact .s (.s (.s .z)) | exact .s (.s (.s (.s .z))) | exact .s (.s (.s (.s (.s .z)))) | exact .s (.s (.s (.s (.s (.s .z))))) | exact .s (.s (.s (.s (.s (.s (.s .z)))))) | exact .s (.s (.s (.s (.s (.s (.s (.s .z))))))) | exact .s (.s (.s (.s (.s (.s (.s (.s (.s .z)))))))) | exact .s (.s (.s (.s (.s (.s (.s (.s (.s (.s .z))))))))) | exact .s (.s (.s (.s (.s (.s (.s (.s (.s (.s (.s .z)))))))))) | exact .s (.s (.s (.s (.s (.s (.s (.s (.s (.s (.s (.s .z))))))))))) | exact .s (.s (.s (.s (.s (.s (.s (.s (.s (.s (.s (.s (.s .z))))))))))))) (by rfl) | rfl) ?_)) ?_
        refine .ret1 (by rfl) ?_
        intro m hobj
        exact ⟨rfl, ((h3.objs hobj).perm (List.perm_middle (l₁ := [_, _, _]))).tail⟩

end Go.Proofs.P16
namespace Go.Proofs.P16
set_option linter.all false
open Go Go.Am Go.Bdd
attribute [local irreducible] loadK storeK newK boxK tipK makeMapK buildTK buildK buildSliceK nilK binK unK condK convK eqvK pickK gK gDK vK extractK fieldK lookupK mapUpdateK appendK min2K max2K retK makeSliceK freezeK bytesK loopV blkK stayK sameK rangeK callK aFieldAddr aIndexAddr aIndexAddrA aLen aIndex aSlice

def dnEs (dn : List ((Nat × Nat) × Nat)) : List (AV × AV) := dn.map fun x => (encP x.1, vI x.2)
/-- What the two at once know. -/
abbrev bh (p t mm eb db d tb vb ef : Nat) (ns : List Nd) (dn : List ((Nat × Nat) × Nat)) (fr : Heap) : Heap :=
  tab p t mm ns ((d, .map (dnEs dn)) :: (eb, .row 0 [.func ef [] []]) :: (db, .row 0 [.map d]) :: (tb, .row 0 [.ptr p 0 0]) :: (vb, .row 0 [.func 44 [] [.ptr eb 0 0, .ptr db 0 0, .ptr tb 0 0, .ptr vb 0 0]]) :: fr)

def EndFn (ef : Nat) (en : Nat → Nat → Option Nat) : Prop := ∀ (m : Mem) (l : Heap) (a b : Nat), Sep m l → Tells (Am.Call T ef [vI a, vI b] m) fun r m' => r = encE (en a b) ∧ Sep m' l

theorem lookN_self {κ β : Type} [DecidableEq κ] {k : κ} {b : β} {es : List (κ × β)} : lookN k (aputN k b es) = some b := by rw [lookN_aputN, if_pos rfl]

theorem call44 {K ef : Nat} {en : Nat → Nat → Option Nat} {op : Bool → Bool → Bool} (he : EndOk en op) (hen : EndFn ef en) {p t mm eb db d tb vb : Nat} : ∀ (f : Nat) {fr : Heap} {m : Mem} {ns : List Nd} {dn : List ((Nat × Nat) × Nat)} {a b : Nat} {ns' : List Nd} {dn' : List ((Nat × Nat) × Nat)} {r : Nat},
    bothF en f ns dn a b = some (ns', dn', r) → a + b < f → Tb K ns → DoneOk ns op dn → a < ns.length + 2 → b < ns.length + 2 → ns.length + cap K (min (top ns a) (top ns b)) < 1099511627776 → Sep m (bh p t mm eb db d tb vb ef ns dn fr) →
    Tells (Am.Call T 44 [vI a, vI b, .ptr eb 0 0, .ptr db 0 0, .ptr tb 0 0, .ptr vb 0 0] m) fun x m' => x = vI r ∧ Sep m' (bh p t mm eb db d tb vb ef ns' dn' fr) := by
  intro f
  induction f with
  | zero => intro fr m ns dn a b ns' dn' r h; cases h
  | succ f ih =>
    intro fr m ns dn a b ns' dn' r hr hf ht hd ha hb hB hs
    refine Tells.fn 0 rfl F44_ok rfl ?_
    show Tells (S44 (Am.Call T) 0 m (vI a) (vI b) (.ptr eb 0 0) (.ptr db 0 0) (.ptr tb 0 0) (.ptr vb 0 0)) _
    have h : Sep ⟨m.objs, none⟩ (bh p t mm eb db d tb vb ef ns dn fr) := hs.objs rfl
    unfold S44 G44
    unfold bothF at hr
    refine .load1 ‹_› (.s (.s (.s (.s .z)))) (by rfl) ?_
    refine Tells.call rfl (hen _ _ a b h) ?_
    rintro _ m1 ⟨rfl, h1⟩
    cases e1 : en a b with
    | some c =>
      rw [e1] at hr
      cases hr
      refine .extract (by rfl) ?_
      refine .extract (by rfl) ?_
      refine .condtt ?_
      refine .ret1 (by rfl) ?_
      intro m hobj
      exact ⟨rfl, h1.objs hobj⟩
    | none =>
      rw [e1] at hr
      obtain ⟨ha2, hb2⟩ := he.no e1
      cases e2 : lookN (a, b) dn with
      | some c =>
        rw [e2] at hr
        cases hr
        have hk : findKey ⟨[.i, .i], true⟩ (encP (a, b)) (dnEs dn) = some (some (vI r)) := by rw [dnEs, findKey_enc eqv_p, e2]; rfl
        refine .extract (by rfl) ?_
        refine .extract (by rfl) ?_
        refine .condff ?_
        refine .build2 ?_
        refine .new ‹_› ?_
        intro nw m h
        refine .storeA ‹_› .z (by rfl) (by rfl) ?_
        intro m h
        refine .load1 ‹_› (.s (.s (.s (.s (.s (.s .z)))))) (by rfl) ?_
        refine .loadA ‹_› .z (by rfl) ?_
        refine .lookup2 ‹_› (.s (.s (.s (.s .z)))) (by rfl) hk ?_
        refine .extract (by rfl) ?_
        refine .extract (by rfl) ?_
        refine .condtt ?_
        refine .ret1 (by rfl) ?_
        intro m hobj
        exact ⟨rfl, (h.objs hobj).tail⟩
      | none =>
        rw [e2] at hr
        have hk : findKey ⟨[.i, .i], true⟩ (encP (a, b)) (dnEs dn) = some none := by rw [dnEs, findKey_enc eqv_p, e2]; rfl
        obtain ⟨na, hna⟩ := ht.wf.at ha2 ha
        obtain ⟨nb, hnb⟩ := ht.wf.at hb2 hb
        have ka := ht.top_lt hna
        have kb := ht.top_lt hnb
        have fa := hna.vf
        have fb := hnb.vf
        have ta := hna.tp
        have tb' := hnb.tp
        simp only at hr
        generalize hv : min (top ns a) (top ns b) = v at hr hB
        have hvk : v < K := by omega
        have hvf : v < far := by omega
        obtain ⟨a1, a2, a3, a4, a5, a6⟩ := waysN_spec ht ha (show v ≤ top ns a by omega) hvk hvf
        obtain ⟨b1, b2, b3, b4, b5, b6⟩ := waysN_spec ht hb (show v ≤ top ns b by omega) hvk hvf
        have hlt : (waysN ns a v).1 + (waysN ns b v).1 < f ∧ (waysN ns a v).2 + (waysN ns b v).2 < f := by
          rcases (show top ns a = v ∨ top ns b = v by omega) with h | h
          · have := a3 h; omega
          · have := b3 h; omega
        obtain ⟨ns1, dn1, lo, p1, p2, p3⟩ := both_spec he f (K := K) hlt.1 ht hd (show (waysN ns a v).1 < ns.length + 2 by omega) (show (waysN ns b v).1 < ns.length + 2 by omega)
        have l1 := pre_len p3.pre
        obtain ⟨ns2, dn2, hi, q1, q2, q3⟩ := both_spec he f (K := K) hlt.2 p3.tb p2 (show (waysN ns a v).2 < ns1.length + 2 by omega) (show (waysN ns b v).2 < ns1.length + 2 by omega)
        rw [p1] at hr; simp only at hr
        rw [q1] at hr; simp only at hr
        cases hr
        have t1 : top ns1 (waysN ns a v).2 = top ns (waysN ns a v).2 := top_pre p3.pre (by omega)
        have t2 : top ns1 (waysN ns b v).2 = top ns (waysN ns b v).2 := top_pre p3.pre (by omega)
        have c1 := p3.cnt
        have c2 := q3.cnt
        rw [t1, t2] at c2
        have c4 := cap_two (K := K) (t := v) (a := min (top ns (waysN ns a v).1) (top ns (waysN ns b v).1)) (b := min (top ns (waysN ns a v).2) (top ns (waysN ns b v).2)) hvk (by omega) (by omega)
        refine .extract (by rfl) ?_
        refine .extract (by rfl) ?_
        refine .condff ?_
        refine .build2 ?_
        refine .new ‹_› ?_
        intro nw m h
        refine .storeA ‹_› .z (by rfl) (by rfl) ?_
        intro m h
        refine .load1 ‹_› (.s (.s (.s (.s (.s (.s .z)))))) (by rfl) ?_
        refine .loadA ‹_› .z (by rfl) ?_
        refine .lookup2n ‹_› (.s (.s (.s (.s .z)))) (by rfl) hk ?_
        refine .extract (by rfl) ?_
        refine .extract (by rfl) ?_
        refine .condff ?_
        refine .load1 ‹_› (.s (.s (.s (.s (.s (.s (.s .z))))))) (by rfl) ?_
        have h2 := h.perm (List.perm_middle (l₁ := [_, _, _, _, _, _, _, _])).symm
        refine Tells.call rfl (call45 h2 ha (by omega)) ?_
        rintro _ m2 ⟨rfl, h2⟩
        refine .load1 ‹_› (.s (.s (.s (.s (.s (.s .z)))))) (by rfl) ?_
        refine Tells.call rfl (call45 h2 hb (by omega)) ?_
        rintro _ m3 ⟨rfl, h3⟩
        refine Tells.min2 (c := (v : Int)) (by omega) ?_
        refine .stay (by first | exact stayK_nil | (repeat first | exact stayK_nil | refine stayK_cons ?_ ?_ | refine stayK_not ?_ | exact stayN_zero | refine stayN_succ (by rfl) (by first | exact Sep.load1 ‹_› (by first | exact .z | exact .s .z | exact .s (.s .z) | exact .s (.s (.s .z)) | exact .s (.s (.s (.s .z))) | exact .s (.s (.s (.s (.s .z)))) | exact .s (.s (.s (.s (.s (.s .z))))) | exact .s (.s (.s (.s (.s (.s (.s .z)))))) | exact .s (.s (.s (.s (.s (.s (.s (.s .z))))))) | exact .s (.s (.s (.s (.s (.s (.s (.s (.s .z)))))))) | exact .s (.s (.s (.s (.s (.s (.s (.s (.s (.s .z))))))))) | exact .s (.s (.s (.s (.s (.s (.s (.s (.s (.s (.s .z)))))))))) | exact .s (.s (.s (.s (.s (.s (.s (.s (.s (.s (.s (.s .z))))))))))) | exact .s (.s (.s (.s (.s (.s (.s (.s (.s (.s (.s (.s (.s .z))))))))))))) (by rfl) | exact Sep.loadA ‹_› (by first | exact .z | exact .s .z | exact .s (.s .z) | exact .s (.s (.s .z)) | exact .s (.s (.s (.s .z))) | exact .s (.s (.s (.s (.s .z)))) | exact .s (.s (.s (.s (.s (.s .z))))) | exact .s (.s (.s (.s (.s (.s (.s .z)))))) | exact .s (.s (.s (.s (.s (.s (.s (.s .z))))))) | exact .s (.s (.s (.s (.s (.s (.s (.s (.s .z)))))))) | exact .s (.s (.s (.s (.s (.s (.s (.s (.s (.s .z))))))))) | exact .s (.s (.s (.s (.s (.s (.s (.s (.s (.s (.s .z)))))))))) | exact .s (.s (.s (.s (.s (.s (.s (.s (.s (.s (.s (.s .z))))))))))) | exact .s (.s (.s (.s (.s (.s (.s (.s (.s (.s (.s (.s (.s .z))))))))))))) (by rfl) | rfl) ?_)) ?_
        refine .load1 ‹_› (.s (.s (.s (.s (.s (.s .z)))))) (by rfl) ?_
        refine Tells.call rfl (call46 h3 ha (by omega) hvf) ?_
        rintro _ m4 ⟨rfl, h4⟩
        refine .extract (by rfl) ?_
        refine .extract (by rfl) ?_
        refine .load1 ‹_› (.s (.s (.s (.s (.s (.s .z)))))) (by rfl) ?_
        refine Tells.call rfl (call46 h4 hb (by omega) hvf) ?_
        rintro _ m5 ⟨rfl, h5⟩
        refine .extract (by rfl) ?_
        refine .extract (by rfl) ?_
        refine .load1 ‹_› (.s (.s (.s (.s (.s (.s (.s .z))))))) (by rfl) ?_
        refine Tells.call rfl (ih (fr := _ :: fr) p1 hlt.1 ht hd (by omega) (by omega) (by omega) h5) ?_
        rintro _ m6 ⟨rfl, h6⟩
        refine .load1 ‹_› (.s (.s (.s (.s (.s .z))))) (by rfl) ?_
        refine .loadA ‹_› (.s (.s (.s (.s (.s (.s (.s (.s .z)))))))) (by rfl) ?_
        refine .load1 ‹_› (.s (.s (.s (.s (.s (.s .z)))))) (by rfl) ?_
        refine .load1 ‹_› (.s (.s (.s (.s (.s (.s (.s .z))))))) (by rfl) ?_
        refine Tells.call rfl (ih (fr := _ :: fr) q1 hlt.2 p3.tb p2 (by omega) (by omega) (by rw [t1, t2]; omega) h6) ?_
        rintro _ m7 ⟨rfl, h7⟩
        refine .build3 ?_
        refine Tells.call rfl (call35 h7 (n := ⟨v, lo, hi⟩) (by omega)) ?_
        rintro _ m8 ⟨rfl, h8⟩
        have hp : putKey ⟨[.i, .i], true⟩ (encP (a, b)) (vI (mkN ns2 ⟨v, lo, hi⟩).1) (dnEs dn2) = some (dnEs (aputN (a, b) (mkN ns2 ⟨v, lo, hi⟩).1 dn2)) := by rw [dnEs, putKey_enc eqv_p]; rfl
        have hk2 : findKey ⟨[.i, .i], true⟩ (encP (a, b)) (dnEs (aputN (a, b) (mkN ns2 ⟨v, lo, hi⟩).1 dn2)) = some (some (vI (mkN ns2 ⟨v, lo, hi⟩).1)) := by rw [dnEs, findKey_enc eqv_p, lookN_self]; rfl
        refine .mapUpdate ‹_› (.s (.s (.s .z))) (by rfl) hp ?_
        intro m h
        refine .stay (by first | exact stayK_nil | (repeat first | exact stayK_nil | refine stayK_cons ?_ ?_ | refine stayK_not ?_ | exact stayN_zero | refine stayN_succ (by rfl) (by first | exact Sep.load1 ‹_› (by first | exact .z | exact .s .z | exact .s (.s .z) | exact .s (.s (.s .z)) | exact .s (.s (.s (.s .z))) | exact .s (.s (.s (.s (.s .z)))) | exact .s (.s (.s (.s (.s (.s .z))))) | exact .s (.s (.s (.s (.s (.s (.s .z)))))) | exact .s (.s (.s (.s (.s (.s (.s (.s .z))))))) | exact .s (.s (.s (.s (.s (.s (.s (.s (.s .z)))))))) | exact .s (.s (.s (.s (.s (.s (.s (.s (.s (.s .z))))))))) | exact .s (.s (.s (.s (.s (.s (.s (.s (.s (.s (.s .z)))))))))) | exact .s (.s (.s (.s (.s (.s (.s (.s (.s (.s (.s (.s .z))))))))))) | exact .s (.s (.s (.s (.s (.s (.s (.s (.s (.s (.s (.s (.s .z))))))))))))) (by rfl) | exact Sep.loadA ‹_› (by first | exact .z | exact .s .z | exact .s (.s .z) | exact .s (.s (.s .z)) | exact .s (.s (.s (.s .z))) | exact .s (.s (.s (.s (.s .z)))) | exact .s (.s (.s (.s (.s (.s .z))))) | exact .s (.s (.s (.s (.s (.s (.s .z)))))) | exact .s (.s (.s (.s (.s (.s (.s (.s .z))))))) | exact .s (.s (.s (.s (.s (.s (.s (.s (.s .z)))))))) | exact .s (.s (.s (.s (.s (.s (.s (.s (.s (.s .z))))))))) | exact .s (.s (.s (.s (.s (.s (.s (.s (.s (.s (.s .z)))))))))) | exact .s (.s (.s (.s (.s (.s (.s (.s (.s (.s (.s (.s .z))))))))))) | exact .s (.s (.s (.s (.s (.s (.s (.s (.s (.s (.s (.s (.s .z))))))))))))) (by rfl) | rfl) ?_)) ?_
        refine .load1 ‹_› (.s (.s (.s (.s (.s .z))))) (by rfl) ?_
        refine .loadA ‹_› (.s (.s (.s (.s (.s (.s (.s (.s .z)))))))) (by rfl) ?_
        refine .lookup1 ‹_› (.s (.s (.s .z))) (by rfl) hk2 ?_
        refine .ret1 (by rfl) ?_
        intro m hobj
        exact ⟨rfl, ((h.objs hobj).perm (List.perm_middle (l₁ := [_, _, _, _, _, _, _, _]))).tail⟩

/-- Two places at once. -/
theorem call27 {K ef : Nat} {en : Nat → Nat → Option Nat} {op : Bool → Bool → Bool} (he : EndOk en op) (hen : EndFn ef en) {p t mm : Nat} {fr : Heap} {m : Mem} {ns : List Nd} {a b : Nat} (ht : Tb K ns) (ha : a < ns.length + 2) (hb : b < ns.length + 2) (hB : ns.length + cap K (min (top ns a) (top ns b)) < 1099511627776) (hs : Sep m (tab p t mm ns fr)) :
    Tells (Am.Call T 27 [.ptr p 0 0, vI a, vI b, .func ef [] []] m) fun x m' => ∃ ns' r, x = vI r ∧ Sep m' (tab p t mm ns' fr) ∧ Made K ns ns' r (fun ρ => op (sem ns a ρ) (sem ns b ρ)) (min (top ns a) (top ns b)) (cap K (min (top ns a) (top ns b))) := by
  refine Tells.fn 0 rfl F27_ok rfl ?_
  show Tells (S27 (Am.Call T) 0 m (.ptr p 0 0) (vI a) (vI b) (.func ef [] [])) _
  have h : Sep ⟨m.objs, none⟩ (tab p t mm ns fr) := hs.objs rfl
  obtain ⟨ns', dn', r, p1, p2, p3⟩ := both_spec he (a + b + 1) (K := K) (dn := []) (by omega) ht (fun x y c h => by cases h) ha hb
  unfold S27 G27
  refine .box1 ‹_› (by rfl) (by rfl) ?_
  intro nw m h
  refine .box1 ‹_› (by rfl) (by rfl) ?_
  intro nw m h
  refine .makeMap ‹_› ?_
  intro nw m h
  refine .new ‹_› ?_
  intro nw m h
  refine .store1 ‹_› .z (by rfl) (by rfl) ?_
  intro m h
  refine .new ‹_› ?_
  intro nw m h
  refine .store1 ‹_› .z (by rfl) (by rfl) ?_
  intro m h
  refine .load1 ‹_› .z (by rfl) ?_
  refine Tells.call rfl (call44 he hen (a + b + 1) p1 (by omega) ht (fun x y c h => by cases h) ha hb hB (h.mvs [0, 4, 2, 4, 4, 7, 7, 7])) ?_
  rintro _ m1 ⟨rfl, h1⟩
  refine .ret1 (by rfl) ?_
  intro m hobj
  exact ⟨ns', r, rfl, ((h1.objs hobj).mvs [2, 2, 2, 7, 7, 7, 7, 7]).tail.tail.tail.tail.tail, p3⟩

theorem and_fn : EndFn 29 andE := fun _ _ _ _ h => call29 h
theorem or_fn : EndFn 31 orE := fun _ _ _ _ h => call31 h
end Go.Proofs.P16
