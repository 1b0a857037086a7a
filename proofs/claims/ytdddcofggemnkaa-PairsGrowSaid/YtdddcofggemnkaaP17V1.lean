/- The walk through the pairs of a list that are some. -/
import Derived.Test.YtdddcofggemnkaaP17Sh
import Derived.Test.YtdddcofggemnkaaAmV
import Derived.KernelRfl
namespace Go.Proofs.P17
set_option linter.all false
open Go Go.Am

theorem T_yb {y : Nat} : T (yb + y) = none := by
  cases h : T (yb + y) with
  | none => rfl
  | some fn =>
    have h1 := hT _ _ h
    unfold okFn at h1
    split at h1
    · split at h1
      · simp only [Bool.and_eq_true, decide_eq_true_eq] at h1
        have := h1.1.1.1
        omega
      · cases h1
    · cases h1

abbrev vI (n : Nat) : AV := .int .i64 (n : Int)
abbrev vZ (z : Int) : AV := .int .i64 z
abbrev pV (p : Int × Int) : AV := .agg [.int .i64 p.1, .int .i64 p.2]
/-- A list of pairs; of whole numbers. -/
def IsPs (v : AV) (ps : List (Int × Int)) : Prop := ∃ k, v = .list .shared k (ps.map pV) ∧ (k = 2 ∨ ps = [])
def IsZs (v : AV) (zs : List Int) : Prop := ∃ k, v = .list .shared k (zs.map vZ) ∧ (k = 1 ∨ zs = [])

/-- A row's cells, pair by pair. -/
def PRow (cs : List AV) (es : List (Int × Int)) : Prop := es.length * 2 ≤ cs.length ∧ ∀ (j : Nat) (p : Int × Int), es[j]? = some p → cs[j * 2]? = some (vZ p.1) ∧ cs[j * 2 + 1]? = some (vZ p.2)

theorem prow_pair {cs : List AV} {es : List (Int × Int)} (h : PRow cs es) {j : Nat} {p : Int × Int} (hp : es[j]? = some p) : j * 2 + 2 ≤ cs.length ∧ (cs.drop (j * 2)).take 2 = [vZ p.1, vZ p.2] := by
  have hj : j < es.length := (List.getElem?_eq_some_iff.1 hp).1
  obtain ⟨g1, g2⟩ := h.2 j p hp
  have hl := h.1
  refine ⟨by omega, ?_⟩
  obtain ⟨a1, a2⟩ := List.getElem?_eq_some_iff.1 g1
  obtain ⟨b1, b2⟩ := List.getElem?_eq_some_iff.1 g2
  rw [List.drop_eq_getElem_cons a1, List.drop_eq_getElem_cons b1, a2, b2]
  rfl
/-- A slice of pairs that may be read: as it is, or a row. -/
def PSl (x : AV) (l : Heap) (ps : List (Int × Int)) : Prop := (∃ k, x = .list .shared k (ps.map pV) ∧ (k = 2 ∨ ps = [])) ∨ ∃ id ver cs, x = .ref id ver 0 ps.length ∧ Has l id (.row ver cs) ∧ PRow cs ps
def Pa (a : AV) (l : Heap) (p : Int × Int) : Prop := a = .cptr (pV p) ∨ ∃ id ver off cs, a = .ptr id ver off ∧ Has l id (.row ver cs) ∧ cs[off]? = some (vZ p.1) ∧ cs[off + 1]? = some (vZ p.2)
def Pc (a : AV) (l : Heap) (z : Int) : Prop := a = .cptr (.agg [vZ z]) ∨ ∃ id ver off cs, a = .ptr id ver off ∧ Has l id (.row ver cs) ∧ cs[off]? = some (vZ z)

section
variable {m : Mem} {l : Heap} {P : AV → Mem → Prop} {x a : AV} {ps : List (Int × Int)} {p : Int × Int} {z : Int}
theorem _root_.Go.Am.Tells.psLen (hx : PSl x l ps) {k : KV} (hk : Tells (k (vI ps.length) m) P) : Tells (Am.vK (aLen m 1 x) m k) P := by
  rcases hx with ⟨kk, rfl, _⟩ | ⟨id, ver, cs, rfl, _⟩
  · refine Tells.lenL ?_
    rw [List.length_map]
    exact hk
  · exact Tells.lenR hk
theorem _root_.Go.Am.Tells.psIdx (hx : PSl x l ps) {kd : IntKind} {i : Int} {j : Nat} (hi : i = j) (hp : ps[j]? = some p) {k : KV} (hk : ∀ a, Pa a l p → Tells (k a m) P) : Tells (Am.vK (aIndexAddr m 2 x (.int kd i)) m k) P := by
  have hj := (List.getElem?_eq_some_iff.1 hp).1
  rcases hx with ⟨kk, rfl, hk2⟩ | ⟨id, ver, cs, rfl, hh, hc⟩
  · have : kk = 2 := hk2.resolve_right (by intro e; rw [e] at hj; simp at hj)
    subst this
    exact Tells.indexL hi (by rw [List.getElem?_map, hp]; rfl) (hk _ (.inl rfl))
  · refine Tells.indexR hi hj (hk _ (.inr ⟨id, ver, _, cs, rfl, hh, ?_⟩))
    obtain ⟨g1, g2⟩ := hc.2 j p hp
    rw [Nat.zero_add]
    exact ⟨g1, g2⟩
theorem _root_.Go.Am.Tells.pa0 (h : Pa a l p) {k : KV} (hk : ∀ b, Pc b l p.1 → Tells (k b m) P) : Tells (Am.vK (aIndexAddrA 2 1 a (.int .i64 0)) m k) P := by
  rcases h with rfl | ⟨id, ver, off, cs, rfl, hh, h1, h2⟩
  · refine Tells.of_eq ?_ (hk _ (.inl rfl))
    rfl
  · exact Tells.indexA (j := 0) rfl (by omega) (hk _ (.inr ⟨id, ver, _, cs, rfl, hh, h1⟩))
theorem _root_.Go.Am.Tells.pa1 (h : Pa a l p) {k : KV} (hk : ∀ b, Pc b l p.2 → Tells (k b m) P) : Tells (Am.vK (aIndexAddrA 2 1 a (.int .i64 1)) m k) P := by
  rcases h with rfl | ⟨id, ver, off, cs, rfl, hh, h1, h2⟩
  · refine Tells.of_eq ?_ (hk _ (.inl rfl))
    rfl
  · exact Tells.indexA (j := 1) rfl (by omega) (hk _ (.inr ⟨id, ver, _, cs, rfl, hh, h2⟩))
theorem _root_.Go.Am.Tells.pcLoad (hs : Sep m l) (h : Pc a l z) {k : KV} (hk : Tells (k (vZ z) m) P) : Tells (loadK none a m k) P := by
  rcases h with rfl | ⟨id, ver, off, cs, rfl, hh, h1⟩
  · refine Tells.of_eq ?_ hk
    rw [loadK_eq]; rfl
  · exact Tells.load1 hs hh h1 hk
theorem _root_.Go.Am.Tells.paLoad (hs : Sep m l) (h : Pa a l p) {k : KV} (hk : Tells (k (pV p) m) P) : Tells (loadK (some 2) a m k) P := by
  rcases h with rfl | ⟨id, ver, off, cs, rfl, hh, h1, h2⟩
  · exact Tells.loadC rfl hk
  · obtain ⟨a1, a2⟩ := List.getElem?_eq_some_iff.1 h1
    obtain ⟨b1, b2⟩ := List.getElem?_eq_some_iff.1 h2
    refine Tells.loadN hs hh (xs := [vZ p.1, vZ p.2]) (by omega) ?_ hk
    rw [List.drop_eq_getElem_cons a1, List.drop_eq_getElem_cons b1, a2, b2]
    rfl
end

theorem PSl.skip {x : AV} {o : Nat × AObj} {l : Heap} {ps : List (Int × Int)} (h : PSl x l ps) : PSl x (o :: l) ps := by
  rcases h with h | ⟨id, ver, cs, h1, h2, h3⟩
  · exact .inl h
  · exact .inr ⟨id, ver, cs, h1, .s h2, h3⟩
theorem PSl.under {x : AV} {H l : Heap} {ps : List (Int × Int)} (h : PSl x l ps) : PSl x (H ++ l) ps := by
  induction H with
  | nil => exact h
  | cons o H ih => exact ih.skip
theorem PSl.untag {x : AV} {l : Heap} {ps : List (Int × Int)} (h : PSl x l ps) : x.untag = x := by
  rcases h with ⟨k, rfl, _⟩ | ⟨id, ver, cs, rfl, _⟩ <;> rfl
theorem PSl.cell {x : AV} {l : Heap} {ps : List (Int × Int)} (h : PSl x l ps) : x.cells = [x] ∧ x.solid = true := by
  rcases h with ⟨k, rfl, _⟩ | ⟨id, ver, cs, rfl, _⟩ <;> exact ⟨rfl, rfl⟩
theorem _root_.Go.Am.Sep.psl {m : Mem} {l : Heap} {v : AV} {ps : List (Int × Int)} (_h : Sep m l) (hv : IsPs v ps) : PSl v l ps := .inl hv

/-! Slices of whole numbers that may be read. -/
def ISl (x : AV) (l : Heap) (zs : List Int) : Prop := (∃ k, x = .list .shared k (zs.map vZ) ∧ (k = 1 ∨ zs = [])) ∨ ∃ id ver off cs, x = .ref id ver off zs.length ∧ Has l id (.row ver cs) ∧ off + zs.length ≤ cs.length ∧ ∀ (j : Nat) (z : Int), zs[j]? = some z → cs[off + j]? = some (vZ z)
def Ia (a : AV) (l : Heap) (z : Int) : Prop := a = .cptr (vZ z) ∨ ∃ id ver off cs, a = .ptr id ver off ∧ Has l id (.row ver cs) ∧ cs[off]? = some (vZ z)
section
variable {m : Mem} {l : Heap} {P : AV → Mem → Prop} {x a : AV} {zs : List Int} {z : Int}
theorem _root_.Go.Am.Tells.isLen (hx : ISl x l zs) {k : KV} (hk : Tells (k (vI zs.length) m) P) : Tells (Am.vK (aLen m 1 x) m k) P := by
  rcases hx with ⟨kk, rfl, _⟩ | ⟨id, ver, off, cs, rfl, _⟩
  · refine Tells.lenL ?_
    rw [List.length_map]
    exact hk
  · exact Tells.lenR hk
theorem _root_.Go.Am.Tells.isIdx (hx : ISl x l zs) {kd : IntKind} {i : Int} {j : Nat} (hi : i = j) (hp : zs[j]? = some z) {k : KV} (hk : ∀ a, Ia a l z → Tells (k a m) P) : Tells (Am.vK (aIndexAddr m 1 x (.int kd i)) m k) P := by
  have hj := (List.getElem?_eq_some_iff.1 hp).1
  rcases hx with ⟨kk, rfl, hk2⟩ | ⟨id, ver, off, cs, rfl, hh, hc⟩
  · have : kk = 1 := hk2.resolve_right (by intro e; rw [e] at hj; simp at hj)
    subst this
    exact Tells.indexL hi (by rw [List.getElem?_map, hp]; rfl) (hk _ (.inl rfl))
  · exact Tells.indexR1 hi hj (hk _ (.inr ⟨id, ver, _, cs, rfl, hh, hc.2 j z hp⟩))
theorem _root_.Go.Am.Tells.iaLoad (hs : Sep m l) (h : Ia a l z) {k : KV} (hk : Tells (k (vZ z) m) P) : Tells (loadK none a m k) P := by
  rcases h with rfl | ⟨id, ver, off, cs, rfl, hh, h1⟩
  · refine Tells.of_eq ?_ hk
    rw [loadK_eq]; rfl
  · exact Tells.load1 hs hh h1 hk
end
theorem ISl.skip {x : AV} {o : Nat × AObj} {l : Heap} {zs : List Int} (h : ISl x l zs) : ISl x (o :: l) zs := by
  rcases h with h | ⟨id, ver, off, cs, h1, h2, h3⟩
  · exact .inl h
  · exact .inr ⟨id, ver, off, cs, h1, .s h2, h3⟩
theorem ISl.under {x : AV} {H l : Heap} {zs : List Int} (h : ISl x l zs) : ISl x (H ++ l) zs := by
  induction H with
  | nil => exact h
  | cons o H ih => exact ih.skip
theorem ISl.untag {x : AV} {l : Heap} {zs : List Int} (h : ISl x l zs) : x.untag = x := by
  rcases h with ⟨k, rfl, _⟩ | ⟨id, ver, off, cs, rfl, _⟩ <;> rfl
theorem ISl.cell {x : AV} {l : Heap} {zs : List Int} (h : ISl x l zs) : x.cells = [x] ∧ x.solid = true := by
  rcases h with ⟨k, rfl, _⟩ | ⟨id, ver, off, cs, rfl, _⟩ <;> exact ⟨rfl, rfl⟩
theorem _root_.Go.Am.Sep.isl {m : Mem} {l : Heap} {v : AV} {zs : List Int} (_h : Sep m l) (hv : IsZs v zs) : ISl v l zs := .inl hv

attribute [local irreducible] loadK storeK newK boxK tipK makeMapK buildTK buildK buildSliceK nilK binK unK condK convK eqvK pickK gK gDK vK extractK fieldK lookupK mapUpdateK appendK min2K max2K retK makeSliceK freezeK bytesK loopV blkK stayK sameK rangeK callK aFieldAddr aIndexAddr aIndexAddrA aLen aIndex aSlice
def ord (p : Int × Int) : Int × Int := (min p.1 p.2, max p.1 p.2)
def okP (p : Int × Int) : Bool := decide (0 ≤ p.1) && decide (p.1 ≠ p.2)
def goods (ps : List (Int × Int)) : List (Int × Int) := (ps.map ord).filter okP

theorem call61 {m : Mem} {fr : Heap} {v : AV} {ps : List (Int × Int)} (hv : PSl v fr ps) (hs : Sep m fr) : Tells (Am.Call T 61 [v] m) fun x m' => ∃ c, x = .func 85 [] [.ptr c 0 0] ∧ Sep m' ((c, .row 0 [v]) :: fr) := by
  obtain ⟨hc1, hc2⟩ := hv.cell
  refine Tells.fn 2 rfl F61_ok rfl ?_
  show Tells (S61 (Am.Call T) 2 m v) _
  have h : Sep ⟨m.objs, none⟩ fr := hs.objs rfl
  unfold S61 G61
  refine Tells.box1 h hc1 hc2 ?_
  intro nw m h
  refine .ret1 (by rfl) ?_
  intro m hobj
  exact ⟨nw, rfl, h.objs hobj⟩

set_option maxHeartbeats 4000000 in
theorem call85 {J : List (Int × Int) → Heap → Prop} {Js : Heap → Prop} {y c : Nat} {v : AV} {ps : List (Int × Int)} (hlen : ps.length < 1152921504606846976) (hJ : ∀ d l, J d l → Has l c (.row 0 [v]) ∧ PSl v l ps)
    (round : ∀ d p l m, (d ++ [p]) <+: goods ps → J d l → Sep m l → Tells (Am.Call T (yb + y) [pV p] m) fun r m' => (r = .bool true ∧ ∃ l', J (d ++ [p]) l' ∧ Sep m' l') ∨ (r = .bool false ∧ ∃ l', Js l' ∧ Sep m' l'))
    {m : Mem} {l : Heap} (h0 : J [] l) (hs : Sep m l) : Tells (Am.Call T 85 [.yield y, .ptr c 0 0] m) fun _ m' => (∃ l', J (goods ps) l' ∧ Sep m' l') ∨ ∃ l', Js l' ∧ Sep m' l' := by
  refine Tells.fn (ps.length + 2) rfl F85_ok rfl ?_
  show Tells (S85 (Am.Call T) _ m (.yield y) (.ptr c 0 0)) _
  have h : Sep ⟨m.objs, none⟩ l := hs.objs rfl
  unfold S85 G85
  refine Tells.load1 h (hJ _ _ h0).1 rfl ?_
  refine Tells.psLen (hJ _ _ h0).2 ?_
  refine Tells.loop (fun j vs m => ∃ (i : Nat) (l : Heap), i + j = ps.length ∧ vs = [.yield y, v, vI ps.length, vI i] ∧ J (goods (ps.take i)) l ∧ Sep m l) ?_ (i := ps.length) (by omega) ?_
  · rintro j vs m L2 ⟨i, l, j1, rfl, hj, h⟩ hL
    unfold S85_2 G85_2
    by_cases hi : i < ps.length
    · obtain ⟨p, hp⟩ : ∃ p, ps[i]? = some p := ⟨_, List.getElem?_eq_getElem hi⟩
      have htk : ps.take (i + 1) = ps.take i ++ [p] := by rw [List.take_add_one, hp]; rfl
      have hpre : goods (ps.take (i + 1)) <+: goods ps := by
        unfold goods
        exact List.IsPrefix.filter _ (List.IsPrefix.map _ (List.take_prefix _ _))
      have hgood : goods (ps.take (i + 1)) = goods (ps.take i) ++ if okP (ord p) then [ord p] else [] := by
        rw [htk]
        simp only [goods, List.map_append, List.filter_append, List.map_cons, List.map_nil, List.filter_cons, List.filter_nil]
      by_cases h0 : 0 ≤ min p.1 p.2
      · by_cases hne : min p.1 p.2 = max p.1 p.2
        · have hok : okP (ord p) = false := by simp [okP, ord, hne]
          rw [hok] at hgood
          refine .lss ?_
          refine .condT (by first | assumption | omega) ?_
          refine .psIdx (hJ _ _ hj).2 (j := i) (by rfl) hp ?_; intro ad had
          refine .paLoad h had ?_
          refine .new ‹_› ?_
          intro nw m h
          refine .storeA ‹_› .z (by rfl) (by rfl) ?_
          intro m h
          refine .indexA (j := 0) (by rfl) (by omega) ?_
          refine .load1 ‹_› .z (by rfl) ?_
          refine .indexA (j := 1) (by rfl) (by omega) ?_
          refine .load1 ‹_› .z (by rfl) ?_
          refine .min2 (c := min p.1 p.2) rfl ?_
          refine .indexA (j := 0) (by rfl) (by omega) ?_
          refine .load1 ‹_› .z (by rfl) ?_
          refine .indexA (j := 1) (by rfl) (by omega) ?_
          refine .load1 ‹_› .z (by rfl) ?_
          refine .max2 (c := max p.1 p.2) rfl ?_
          refine .build2 ?_
          refine .storeA ‹_› .z (by rfl) (by rfl) ?_
          intro m h
          refine .indexA (j := 0) (by rfl) (by omega) ?_
          refine .load1 ‹_› .z (by rfl) ?_
          refine .geq ?_
          refine .gT (by rfl) (by first | assumption | omega) ?_
          refine .indexA (j := 0) (by rfl) (by omega) ?_
          refine .gT (by rfl) (by first | assumption | omega) ?_
          refine .load1 ‹_› .z (by rfl) ?_
          refine .gT (by rfl) (by first | assumption | omega) ?_
          refine .indexA (j := 1) (by rfl) (by omega) ?_
          refine .gT (by rfl) (by first | assumption | omega) ?_
          refine .load1 ‹_› .z (by rfl) ?_
          refine .gT (by rfl) (by first | assumption | omega) ?_
          refine .neq ?_
          refine .pickT (by first | assumption | omega) ?_
          refine .gFT (by rfl) (by first | assumption | omega) ?_
          refine .gFT (by rfl) (by first | assumption | omega) ?_
          refine .gFT (by rfl) (by first | assumption | omega) ?_
          refine .gFT (by rfl) (by first | assumption | omega) ?_
          refine .pickF (by first | assumption | omega) ?_
          refine .condff ?_
          refine .add (by rfl) (by omega) ?_
          refine hL (j - 1) _ _ (by omega) ⟨i + 1, l, by omega, rfl, ?_, h.tail⟩
          rw [hgood]
          simpa using hj
        · have hok : okP (ord p) = true := by simp [okP, ord, h0, hne]
          rw [hok] at hgood
          refine .lss ?_
          refine .condT (by first | assumption | omega) ?_
          refine .psIdx (hJ _ _ hj).2 (j := i) (by rfl) hp ?_; intro ad had
          refine .paLoad h had ?_
          refine .new ‹_› ?_
          intro nw m h
          refine .storeA ‹_› .z (by rfl) (by rfl) ?_
          intro m h
          refine .indexA (j := 0) (by rfl) (by omega) ?_
          refine .load1 ‹_› .z (by rfl) ?_
          refine .indexA (j := 1) (by rfl) (by omega) ?_
          refine .load1 ‹_› .z (by rfl) ?_
          refine .min2 (c := min p.1 p.2) rfl ?_
          refine .indexA (j := 0) (by rfl) (by omega) ?_
          refine .load1 ‹_› .z (by rfl) ?_
          refine .indexA (j := 1) (by rfl) (by omega) ?_
          refine .load1 ‹_› .z (by rfl) ?_
          refine .max2 (c := max p.1 p.2) rfl ?_
          refine .build2 ?_
          refine .storeA ‹_› .z (by rfl) (by rfl) ?_
          intro m h
          refine .indexA (j := 0) (by rfl) (by omega) ?_
          refine .load1 ‹_› .z (by rfl) ?_
          refine .geq ?_
          refine .gT (by rfl) (by first | assumption | omega) ?_
          refine .indexA (j := 0) (by rfl) (by omega) ?_
          refine .gT (by rfl) (by first | assumption | omega) ?_
          refine .load1 ‹_› .z (by rfl) ?_
          refine .gT (by rfl) (by first | assumption | omega) ?_
          refine .indexA (j := 1) (by rfl) (by omega) ?_
          refine .gT (by rfl) (by first | assumption | omega) ?_
          refine .load1 ‹_› .z (by rfl) ?_
          refine .gT (by rfl) (by first | assumption | omega) ?_
          refine .neq ?_
          refine .pickT (by first | assumption | omega) ?_
          refine .gT (by rfl) (by first | assumption | omega) ?_
          refine .gT (by rfl) (by first | assumption | omega) ?_
          refine .loadA ‹_› .z (by rfl) ?_
          refine .gT (by rfl) (by first | assumption | omega) ?_
          refine Tells.callY rfl (round (goods (ps.take i)) (ord p) l _ (by rw [hgood] at hpre; simpa using hpre) hj h.tail) ?_
          rintro _ m' (⟨rfl, l', hj', h'⟩ | ⟨rfl, l', hj', h'⟩)
          · refine .gT (by rfl) (by first | assumption | omega) ?_
            refine .not ?_
            refine .pickT (by first | assumption | omega) ?_
            refine .condff ?_
            refine .add (by rfl) (by omega) ?_
            refine hL (j - 1) _ _ (by omega) ⟨i + 1, l', by omega, rfl, ?_, h'⟩
            rw [hgood]
            simpa using hj'
          · refine .gT (by rfl) (by first | assumption | omega) ?_
            refine .not ?_
            refine .pickT (by first | assumption | omega) ?_
            refine .condtt ?_
            refine .blkR ?_
            refine .ret rfl rfl ?_
            intro m hobj
            exact .inr ⟨l', hj', h'.objs hobj⟩
      · have hok : okP (ord p) = false := by unfold okP ord; rw [Bool.and_eq_false_iff]; left; exact decide_eq_false h0
        rw [hok] at hgood
        refine .lss ?_
        refine .condT (by first | assumption | omega) ?_
        refine .psIdx (hJ _ _ hj).2 (j := i) (by rfl) hp ?_; intro ad had
        refine .paLoad h had ?_
        refine .new ‹_› ?_
        intro nw m h
        refine .storeA ‹_› .z (by rfl) (by rfl) ?_
        intro m h
        refine .indexA (j := 0) (by rfl) (by omega) ?_
        refine .load1 ‹_› .z (by rfl) ?_
        refine .indexA (j := 1) (by rfl) (by omega) ?_
        refine .load1 ‹_› .z (by rfl) ?_
        refine .min2 (c := min p.1 p.2) rfl ?_
        refine .indexA (j := 0) (by rfl) (by omega) ?_
        refine .load1 ‹_› .z (by rfl) ?_
        refine .indexA (j := 1) (by rfl) (by omega) ?_
        refine .load1 ‹_› .z (by rfl) ?_
        refine .max2 (c := max p.1 p.2) rfl ?_
        refine .build2 ?_
        refine .storeA ‹_› .z (by rfl) (by rfl) ?_
        intro m h
        refine .indexA (j := 0) (by rfl) (by omega) ?_
        refine .load1 ‹_› .z (by rfl) ?_
        refine .geq ?_
        refine .gFT (by rfl) (by first | assumption | omega) ?_
        refine .gFT (by rfl) (by first | assumption | omega) ?_
        refine .gFT (by rfl) (by first | assumption | omega) ?_
        refine .gFT (by rfl) (by first | assumption | omega) ?_
        refine .gFT (by rfl) (by first | assumption | omega) ?_
        refine .pickF (by first | assumption | omega) ?_
        refine .gft ?_
        refine .gft ?_
        refine .gft ?_
        refine .gft ?_
        refine .pickff ?_
        refine .condff ?_
        refine .add (by rfl) (by omega) ?_
        refine hL (j - 1) _ _ (by omega) ⟨i + 1, l, by omega, rfl, ?_, h.tail⟩
        rw [hgood]
        simpa using hj
    · have hi : i = ps.length := by omega
      subst hi
      rw [List.take_length] at hj
      refine .lss ?_
      refine .condF (by first | assumption | omega) ?_
      refine .blk ?_
      refine .ret rfl rfl ?_
      intro m hobj
      exact .inl ⟨l, hj, h.objs hobj⟩
  · exact ⟨0, l, by omega, rfl, h0, h⟩
end Go.Proofs.P17
namespace Go.Proofs.P17
set_option linter.all false
open Go Go.Am
attribute [local irreducible] loadK storeK newK boxK tipK makeMapK buildTK buildK buildSliceK nilK binK unK condK convK eqvK pickK gK gDK vK extractK fieldK lookupK mapUpdateK appendK min2K max2K retK makeSliceK freezeK bytesK loopV blkK stayK sameK rangeK callK aFieldAddr aIndexAddr aIndexAddrA aLen aIndex aSlice

theorem ev86_0 {n : Nat} {kn : KN} {kx : KX} {y0 y1 y2 : AV} {m : Mem} : evK (Am.Call T) n b86_0 [(7, y0), (2, y1), (4, y2)] m kn kx = S86_0 (Am.Call T) n kn kx y0 y1 y2 m :=
  Eq.mp (by kernel_rfl) (show d86_0 (Am.Call T) n kn kx y0 y1 y2 m = S86_0 (Am.Call T) n kn kx y0 y1 y2 m by rw [l86_0])
theorem ev86_1 {n : Nat} {kn : KN} {kx : KX} {y0 y1 : AV} {m : Mem} : evK (Am.Call T) n b86_1 [(2, y0), (5, y1)] m kn kx = S86_1 (Am.Call T) n kn kx y0 y1 m :=
  Eq.mp (by kernel_rfl) (show d86_1 (Am.Call T) n kn kx y0 y1 m = S86_1 (Am.Call T) n kn kx y0 y1 m by rw [l86_1])

/-- A slice that has been made: nothing, or a row of its own. -/
def RowR (x : AV) (H : Heap) (n : Nat) (es : List AV) : Prop := (∃ g k, x = .list g k [] ∧ es = [] ∧ H = []) ∨
  ∃ id ver cs, unitOf ver = n ∧ x = .ref id ver 0 es.length ∧ H = [(id, .row ver cs)] ∧ cs.take (es.length * n) = flat es ∧ es.length * n ≤ cs.length ∧ 0 < es.length
theorem RowO.to {v : AV} {H : Heap} {n : Nat} {es : List AV} (h : RowO v H n es) (he : ∀ x ∈ es, x.cells.length = n) (h0 : es = [] → H = []) : RowR v.untag H n es := by
  rcases h with ⟨k, rfl, rfl, rfl⟩ | ⟨id, ver, hu, rfl, rfl⟩
  · exact .inl ⟨.shared, k, rfl, rfl, rfl⟩
  · refine .inr ⟨id, ver, flat es, hu, rfl, rfl, ?_, by rw [flatW_len he]; exact Nat.le_refl _, ?_⟩
    · rw [← flatW_len he]; exact List.take_length
    · cases es with
      | nil => exact absurd (h0 rfl) (by simp)
      | cons => simp
theorem RowO.untag {v : AV} {H : Heap} {n : Nat} {es : List AV} (h : RowO v H n es) : v.untag = v ∨ ∃ k, v = .list .full k [] := by
  rcases h with ⟨k, rfl, _, _⟩ | ⟨id, ver, _, rfl, _⟩
  · exact .inr ⟨k, rfl⟩
  · exact .inl rfl
theorem RowO.cell {v : AV} {H : Heap} {n : Nat} {es : List AV} (h : RowO v H n es) : v.cells = [v] ∧ v.solid = true := by
  rcases h with ⟨k, rfl, _, _⟩ | ⟨id, ver, _, rfl, _⟩ <;> exact ⟨rfl, rfl⟩
theorem pVs_cells {l : List (Int × Int)} : ∀ x ∈ l.map pV, x.cells.length = 2 := by
  intro x hx
  obtain ⟨p, _, rfl⟩ := List.mem_map.1 hx
  rfl
theorem goods_len {ps : List (Int × Int)} : (goods ps).length ≤ ps.length := by
  unfold goods
  exact Nat.le_trans (List.length_filter_le _ _) (by simp)

set_option maxHeartbeats 4000000 in
theorem call86 {m : Mem} {fr : Heap} {v : AV} {c : Nat} {ps : List (Int × Int)} (hv : PSl v fr ps) (hlen : ps.length < 4294967296) (hs : Sep m ((c, .row 0 [v]) :: fr)) :
    Tells (Am.Call T 86 [.list .full 0 [], .func 85 [] [.ptr c 0 0]] m) fun x m' => ∃ H, RowR x H 2 ((goods ps).map pV) ∧ Sep m' (H ++ fr) := by
  refine Tells.fn 9 rfl F86_ok rfl ?_
  show Tells (S86 (Am.Call T) 9 m (.list .full 0 []) (.func 85 [] [.ptr c 0 0])) _
  have h : Sep ⟨m.objs, none⟩ ((c, .row 0 [v]) :: fr) := hs.objs rfl
  unfold S86 G86
  refine .box1 ‹_› (by rfl) (by rfl) ?_
  intro nw m h
  refine Tells.range h ?_
  intro y m h
  refine (call85 (v := v) (ps := ps) (J := fun d l => ∃ x H, RowO x H 2 (d.map pV) ∧ (d = [] → H = []) ∧ l = (y, .loop [7] b86_0 b86_1 [(2, .ptr nw 0 0), (4, .list .full 2 [])] .ready) :: (nw, .row 0 [x]) :: (c, .row 0 [v]) :: (H ++ fr)) (Js := fun _ => False)
    (by omega) ?_ ?_ ⟨_, [], RowO.nil, fun _ => rfl, rfl⟩ h).imp ?_
  · rintro d l ⟨x, H, _, _, rfl⟩
    exact ⟨.s (.s .z), hv.under.skip.skip.skip⟩
  · rintro d p l m hpre ⟨x, H, hx, _, rfl⟩ h
    have hd : d.length < ps.length := by
      have h1 := hpre.length_le
      have h2 := goods_len (ps := ps)
      simp at h1
      omega
    refine Tells.round (n := 9) T_yb (h.get .z) rfl ?_
    show Tells (evK (Am.Call T) 9 b86_0 [(7, pV p), (2, .ptr nw 0 0), (4, .list .full 2 [])] m _ _) _
    rw [ev86_0]
    unfold S86_0 G86_0
    generalize hq : nw = q at *
    refine .new ‹_› ?_
    intro nw m h
    refine .storeA ‹_› .z (by rfl) (by rfl) ?_
    intro m h
    refine tells_asN ⟨h.get (.s .z), ?_⟩
    rw [ev86_1]
    unfold S86_1 G86_1
    have h := h.mark (o' := .loop [7] b86_0 b86_1 [(2, .ptr q 0 0), (4, .list .full 2 [])] .busy) (.s .z)
    refine .load1 ‹_› (.s (.s .z)) (by rfl) ?_
    refine .loadA ‹_› .z (by rfl) ?_
    refine .bsA (by rfl) (by rfl) (by rfl) (by decide) (by decide) ?_
    have h := Sep.hfront (l1 := [_, _, _, _]) h
    refine Tells.appendRow hx pVs_cells h (by rw [List.length_map]; unfold room; omega) (by omega) rfl rfl ?_
    intro v' H' m hx' h
    obtain ⟨hc1, hc2⟩ := RowO.cell hx'
    have h := Sep.hfront (l1 := H') (H := [_, _, _, _]) h
    refine Tells.store1 h (.s (.s .z)) hc1 hc2 ?_
    intro m h
    refine tells_asN ⟨h.get (.s .z), .inl ⟨rfl, _, ⟨v', H', ?_, fun e => by simp at e, rfl⟩, (h.mark (.s .z)).tail⟩⟩
    rw [List.map_append]
    exact hx'
  · rintro _ m (⟨l', ⟨x, H, hx, hx0, rfl⟩, h⟩ | ⟨_, h, _⟩)
    · refine .inl ⟨_, _, _, _, h.get .z, ?_⟩
      have h := h.mark (o' := .gone) .z
      refine .load1 ‹_› (.s .z) (by rfl) ?_
      refine Tells.ret rfl rfl ?_
      intro m' hobj
      exact ⟨H, RowO.to hx pVs_cells fun e => hx0 (by simpa using e), (Sep.right (H := [_, _, _]) (h.objs hobj))⟩
    · exact h.elim
end Go.Proofs.P17
namespace Go.Proofs.P17
set_option linter.all false
open Go Go.Am
attribute [local irreducible] loadK storeK newK boxK tipK makeMapK buildTK buildK buildSliceK nilK binK unK condK convK eqvK pickK gK gDK vK extractK fieldK lookupK mapUpdateK appendK min2K max2K retK makeSliceK freezeK bytesK loopV blkK stayK sameK rangeK callK aFieldAddr aIndexAddr aIndexAddrA aLen aIndex aSlice

theorem call62 {m : Mem} {fr : Heap} {v : AV} {c : Nat} {ps : List (Int × Int)} (hv : PSl v fr ps) (hlen : ps.length < 4294967296) (hs : Sep m ((c, .row 0 [v]) :: fr)) :
    Tells (Am.Call T 62 [.func 85 [] [.ptr c 0 0]] m) fun x m' => ∃ H, RowR x H 2 ((goods ps).map pV) ∧ Sep m' (H ++ fr) := by
  refine Tells.fn 9 rfl F62_ok rfl ?_
  show Tells (S62 (Am.Call T) 9 m (.func 85 [] [.ptr c 0 0])) _
  have h : Sep ⟨m.objs, none⟩ ((c, .row 0 [v]) :: fr) := hs.objs rfl
  unfold S62 G62
  refine Tells.call rfl (call86 hv hlen h) ?_
  rintro x m' ⟨H, hx, h⟩
  refine Tells.ret rfl rfl ?_
  intro m'' hobj
  refine ⟨H, ?_, h.objs hobj⟩
  show RowR x.untag H 2 _
  rcases hx with ⟨g, k, rfl, h1, h2⟩ | ⟨id, ver, cs, h1, rfl, h3⟩
  · exact .inl ⟨.shared, k, rfl, h1, h2⟩
  · exact .inr ⟨id, ver, cs, h1, rfl, h3⟩

theorem flat_pV (ps : List (Int × Int)) : flat (ps.map pV) = (flatP ps).map (AV.int .i64) := by
  induction ps with
  | nil => rfl
  | cons p ps ih =>
    show [AV.int .i64 p.1, AV.int .i64 p.2] ++ flat (ps.map pV) = _
    rw [ih]; rfl

def sortP (ps : List (Int × Int)) : List (Int × Int) := ps.mergeSort leP

theorem call63 {m : Mem} {fr H : Heap} {x : AV} {ps : List (Int × Int)} (hx : RowR x H 2 (ps.map pV)) (hlen : ps.length < 4294967296) (hs : Sep m (H ++ fr)) :
    Tells (Am.Call T 63 [x, .func 64 [] []] m) fun r m' => r = .tuple [] ∧ ∃ H', RowR x H' 2 ((sortP ps).map pV) ∧ Sep m' (H' ++ fr) := by
  have hl2 : (sortP ps).length = ps.length := List.length_mergeSort _
  rcases hx with ⟨g, k, rfl, h1, rfl⟩ | ⟨id, ver, cs, h1, rfl, rfl, h3, h4, h5⟩
  · have hps : ps = [] := by simpa using h1
    subst hps
    refine Tells.orc (r := (.tuple [], m)) rfl ?_ ⟨rfl, [], .inl ⟨g, k, rfl, by simp [sortP], rfl⟩, hs⟩
    rfl
  · rw [List.length_map] at h3 h4 h5
    have ho : m.objs[id]? = some (.row ver cs) := hs.at_ (id, _) (by simp)
    have hz : intsOf (cs.take (ps.length * 2)) = some (flatP ps) := by rw [h3, flat_pV]; exact intsOf_ints _
    refine Tells.orc (r := (.tuple [], m.put id (.row ver ((sortF (flatP ps)).map (AV.int .i64) ++ cs.drop (ps.length * 2))))) rfl ?_ ⟨rfl, [(id, .row ver ((sortF (flatP ps)).map (AV.int .i64) ++ cs.drop (ps.length * 2)))], .inr ⟨id, ver, _, h1, ?_, rfl, ?_, ?_, ?_⟩, hs.put .z⟩
    · show sortPO sortF 64 [.ref id ver 0 (ps.map pV).length, .func 64 [] []] m = _
      unfold sortPO
      rw [List.length_map]
      simp only [ho]
      rw [if_pos ⟨trivial, trivial, h4, h5, by omega, trivial⟩, hz]
    · rw [List.length_map, List.length_map, hl2]
    · have e : sortF (flatP ps) = flatP (sortP ps) := by unfold sortF sortP; rw [pairsOf_flat]
      rw [e, List.length_map, flat_pV]
      have : (sortP ps).length * 2 = ((flatP (sortP ps)).map (AV.int .i64)).length := by rw [List.length_map, flatP_len]
      rw [this, List.take_left]
    · rw [List.length_map, List.length_append, List.length_map, List.length_drop, sortF_len ps.length _ (flatP_len ps), flatP_len, hl2]
      omega
    · rw [List.length_map, hl2]; exact h5

/-! What is not as the one ahead of it. -/

def compTo (l : List (Int × Int)) : Nat → List (Int × Int)
  | 0 => []
  | i + 1 => compTo l i ++ match l[i]? with
    | none => []
    | some x => if i ≠ 0 ∧ l[i - 1]? = some x then [] else [x]
def comp (l : List (Int × Int)) : List (Int × Int) := compTo l l.length

theorem compTo_le {l : List (Int × Int)} : ∀ {i : Nat}, (compTo l i).length ≤ i := by
  intro i
  induction i with
  | zero => exact Nat.le_refl _
  | succ i ih =>
    simp only [compTo, List.length_append]
    split
    · simp; omega
    · split <;> simp <;> omega

theorem ltP_of {x y : Int × Int} (h : leP x y = true) (hne : x ≠ y) : leP y x = false := by
  cases h2 : leP y x with
  | false => rfl
  | true => exact absurd (leP_anti h h2) hne

theorem compTo_sorted {l : List (Int × Int)} (hl : l.Pairwise fun a b => leP a b = true) : ∀ {i : Nat}, i ≤ l.length →
    (compTo l i).Pairwise (fun a b => leP a b = true ∧ a ≠ b) ∧ ∀ x, x ∈ compTo l i ↔ x ∈ l.take i := by
  intro i
  induction i with
  | zero => intro _; exact ⟨List.Pairwise.nil, fun x => by simp [compTo]⟩
  | succ i ih =>
    intro hi
    obtain ⟨h1, h2⟩ := ih (by omega)
    have hg : l[i]? = some l[i] := List.getElem?_eq_getElem (by omega)
    have htk : l.take (i + 1) = l.take i ++ [l[i]] := by rw [List.take_add_one, hg]; rfl
    simp only [compTo, hg]
    have hle : ∀ x ∈ l.take i, leP x l[i] = true := by
      intro x hx
      obtain ⟨j, hj⟩ := List.getElem?_of_mem hx
      rw [List.getElem?_take] at hj
      split at hj
      · rename_i hlt
        obtain ⟨hj1, hj2⟩ := List.getElem?_eq_some_iff.1 hj
        rw [← hj2]
        exact List.pairwise_iff_getElem.1 hl j i hj1 (by omega) hlt
      · cases hj
    split
    · rename_i hc
      rw [List.append_nil]
      refine ⟨h1, fun x => ?_⟩
      rw [h2, htk, List.mem_append, List.mem_singleton]
      refine ⟨.inl, fun h => h.elim id fun e => ?_⟩
      subst e
      refine List.mem_of_getElem? (i := i - 1) ?_
      rw [List.getElem?_take, if_pos (by omega)]
      exact hc.2
    · rename_i hc
      refine ⟨?_, fun x => by rw [List.mem_append, h2, htk, List.mem_append]⟩
      rw [List.pairwise_append]
      refine ⟨h1, by simp, fun a ha b hb => ?_⟩
      rw [List.mem_singleton] at hb
      subst hb
      have ha' := (h2 a).1 ha
      refine ⟨hle a ha', fun e => ?_⟩
      subst e
      -- the one ahead of it would be it, too
      obtain ⟨j, hj⟩ := List.getElem?_of_mem ha'
      rw [List.getElem?_take] at hj
      split at hj
      · rename_i hlt
        obtain ⟨hj1, hj2⟩ := List.getElem?_eq_some_iff.1 hj
        refine hc ⟨by omega, ?_⟩
        have hi1 : i - 1 < l.length := by omega
        rw [List.getElem?_eq_getElem hi1]
        congr 1
        by_cases e1 : j = i - 1
        · subst e1; exact hj2
        · have g1 := List.pairwise_iff_getElem.1 hl j (i - 1) hj1 hi1 (by omega)
          have g2 := List.pairwise_iff_getElem.1 hl (i - 1) i hi1 (by omega) (by omega)
          rw [hj2] at g1
          exact leP_anti g2 g1
      · cases hj

theorem comp_sorted {l : List (Int × Int)} (hl : l.Pairwise fun a b => leP a b = true) : (comp l).Pairwise (fun a b => leP a b = true ∧ a ≠ b) ∧ ∀ x, x ∈ comp l ↔ x ∈ l := by
  have := compTo_sorted hl (Nat.le_refl _)
  rwa [List.take_length] at this
end Go.Proofs.P17
