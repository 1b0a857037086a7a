/- The walk through DeleteFunc at pairs; pairs without places. -/
import Derived.Test.YtdddcofggemnkaaP17V12
namespace Go.Proofs.P17
set_option linter.all false
open Go Go.Am
attribute [local irreducible] loadK storeK newK boxK tipK makeMapK buildTK buildK buildSliceK nilK binK unK condK convK eqvK pickK gK gDK vK extractK fieldK lookupK mapUpdateK appendK min2K max2K retK makeSliceK freezeK bytesK loopV blkK stayK sameK rangeK callK aFieldAddr aIndexAddr aIndexAddrA aLen aIndex aSlice

theorem Tells.sliceNil {m : Mem} {P : AV → Mem → Prop} {n id ver len : Nat} {kd : IntKind} {i : Int} (hi : i = 0) (hu : unitOf ver = n) (hn : 0 < n) {k : KV} (hk : Tells (k (.list .shared n []) m) P) : Tells (Am.vK (aSlice n (.ref id ver 0 len) none (some (.int kd i))) m k) P := by
  refine Tells.of_eq ?_ hk
  subst hi
  simp only [aSlice, bound]
  rw [if_pos ⟨by omega, by omega⟩]
  simp only [show (0 : Int).toNat = 0 from rfl]
  rw [if_pos ⟨hn, .inr hu⟩]
  simp only [if_true, Am.vK]

/-- How the loop stands that leaves some out. -/
structure InF {α : Type} (d : α → Bool) (l : List α) (j k : Nat) (es : List α) : Prop where
  len : es.length = l.length
  lt : k < j
  num : k = ((l.take j).filter fun x => !d x).length
  pre : es.take k = (l.take j).filter fun x => !d x
  rest : ∀ i, j ≤ i → es[i]? = l[i]?
theorem InF.skip {α : Type} {d : α → Bool} {l : List α} {j k : Nat} {es : List α} (h : InF d l j k es) {x : α} (hx : l[j]? = some x) (hd : d x = true) : InF d l (j + 1) k es := by
  have hlt := h.lt
  have e : ((l.take (j + 1)).filter fun x => !d x) = (l.take j).filter fun x => !d x := by
    rw [List.take_add_one, hx, List.filter_append]; simp [hd]
  exact ⟨h.len, by omega, by rw [e]; exact h.num, by rw [e]; exact h.pre, fun i hi => h.rest i (by omega)⟩
theorem InF.put {α : Type} {d : α → Bool} {l : List α} {j k : Nat} {es : List α} (h : InF d l j k es) {x : α} (hx : l[j]? = some x) (hd : d x = false) : InF d l (j + 1) (k + 1) (es.set k x) := by
  have hlt := h.lt
  have hlen := h.len
  have hjl := (List.getElem?_eq_some_iff.1 hx).1
  have e : ((l.take (j + 1)).filter fun x => !d x) = ((l.take j).filter fun x => !d x) ++ [x] := by
    rw [List.take_add_one, hx, List.filter_append]; simp [hd]
  refine ⟨by rw [List.length_set]; exact hlen, by omega, by rw [e, List.length_append, ← h.num]; rfl, ?_, fun i hi => ?_⟩
  · rw [e, List.take_add_one, List.getElem?_set_self (by omega), List.take_set_of_le (Nat.le_refl _), h.pre]
    rfl
  · rw [List.getElem?_set_ne (by omega)]
    exact h.rest i (by omega)
theorem InF.start {α : Type} {d : α → Bool} {l : List α} {i : Nat} {x : α} (hx : l[i]? = some x) (hd : d x = true) (hn : ∀ y ∈ l.take i, d y = false) : InF d l (i + 1) i l := by
  have hil := (List.getElem?_eq_some_iff.1 hx).1
  have e0 : ((l.take i).filter fun x => !d x) = l.take i := List.filter_eq_self.2 fun y hy => by rw [hn y hy]; rfl
  have e : ((l.take (i + 1)).filter fun x => !d x) = l.take i := by
    rw [List.take_add_one, hx, List.filter_append, e0]; simp [hd]
  exact ⟨rfl, by omega, by rw [e, List.length_take]; omega, e.symm, fun _ _ => rfl⟩

set_option maxHeartbeats 4000000 in
theorem call71 {m : Mem} {l : Heap} {w : AV} {c : Nat} {zs : List Int} {p : Int × Int} (hc : Has l c (.row 0 [w])) (hw : ISl w l zs) (hlz : zs.length < 4294967296) (hs : Sep m l) :
    Tells (Am.Call T 71 [pV p, .ptr c 0 0] m) fun r m' => r = .bool (outP zs p) ∧ Sep m' l := by
  refine Tells.fn 9 rfl F71_ok rfl ?_
  show Tells (S71 (Am.Call T) 9 m (pV p) (.ptr c 0 0)) _
  have h : Sep ⟨m.objs, none⟩ l := hs.objs rfl
  unfold S71 G71
  refine Tells.boxA h ?_
  intro nw m h
  refine Tells.load1 h (.s hc) rfl ?_
  refine .indexA (j := 0) (by rfl) (by omega) ?_
  refine .load1 ‹_› .z (by rfl) ?_
  refine Tells.call (args := [w, vZ p.1]) (by simp [hw.untag]; rfl) (call49 hw.skip hlz h) ?_
  rintro _ m ⟨rfl, h⟩
  cases h1 : zs.contains p.1 with
  | true =>
    refine .gtf ?_
    refine .gtf ?_
    refine .gtf ?_
    refine .gtf ?_
    refine .picktt ?_
    refine .ret1 (by rfl) ?_
    intro m hobj
    exact ⟨by rw [outP, h1, Bool.true_or], (h.objs hobj).tail⟩
  | false =>
    refine Tells.gff ?_
    refine Tells.load1 h (.s hc) rfl ?_
    refine .gff ?_
    refine .indexA (j := 1) (by rfl) (by omega) ?_
    refine .gff ?_
    refine .load1 ‹_› .z (by rfl) ?_
    refine .gff ?_
    refine Tells.call (args := [w, vZ p.2]) (by simp [hw.untag]; rfl) (call49 hw.skip hlz h) ?_
    rintro _ m ⟨rfl, h⟩
    refine .pickff ?_
    refine .ret1 (by rfl) ?_
    intro m hobj
    exact ⟨by rw [outP, h1, Bool.false_or], (h.objs hobj).tail⟩

set_option maxHeartbeats 4000000 in
theorem call90 {m : Mem} {l : Heap} {x w : AV} {c : Nat} {ps : List (Int × Int)} {zs : List Int} (hx : PSl x l ps) (hl : ps.length < 4294967296) (hc : Has l c (.row 0 [w])) (hw : ISl w l zs) (hlz : zs.length < 4294967296) (hs : Sep m l) :
    Tells (Am.Call T 90 [x, .func 71 [] [.ptr c 0 0]] m) fun r m' => ((r = .int .i64 (-1) ∧ ∀ p ∈ ps, outP zs p = false) ∨ ∃ i p, r = vI i ∧ ps[i]? = some p ∧ outP zs p = true ∧ ∀ q ∈ ps.take i, outP zs q = false) ∧ Sep m' l := by
  refine Tells.fn (ps.length + 2) rfl F90_ok rfl ?_
  show Tells (S90 (Am.Call T) (ps.length + 2) m x (.func 71 [] [.ptr c 0 0])) _
  have h : Sep ⟨m.objs, none⟩ l := hs.objs rfl
  unfold S90 G90
  refine Tells.psLen hx ?_
  refine Tells.loop (fun j vs m => ∃ i : Nat, i + j = ps.length ∧ (∀ q ∈ ps.take i, outP zs q = false) ∧ vs = [x, .func 71 [] [.ptr c 0 0], vI ps.length, vI i] ∧ Sep m l) ?_ (i := ps.length) (by omega) ?_
  · rintro j vs m L2 ⟨i, j1, j2, rfl, h⟩ hL
    unfold S90_2 G90_2
    by_cases hi : i < ps.length
    · obtain ⟨p, hp⟩ : ∃ p, ps[i]? = some p := ⟨_, List.getElem?_eq_getElem hi⟩
      refine .lss ?_
      refine .condT (by first | assumption | omega) ?_
      refine .psIdx hx (j := i) (by rfl) hp ?_; intro ad had
      refine .paLoad h ‹_› ?_
      refine Tells.call (args := [pV p, .ptr c 0 0]) rfl (call71 hc hw hlz h) ?_
      rintro _ m ⟨rfl, h⟩
      cases hq : outP zs p with
      | true =>
        refine .condtt ?_
        refine .blkR ?_
        refine .ret1 (by rfl) ?_
        intro m hobj
        exact ⟨.inr ⟨i, p, rfl, hp, hq, j2⟩, h.objs hobj⟩
      | false =>
        refine .condff ?_
        refine .add (by rfl) (by omega) ?_
        refine hL (j - 1) _ _ (by omega) ⟨i + 1, by omega, ?_, rfl, h⟩
        rw [List.take_add_one, hp]
        intro q hq'
        rcases List.mem_append.1 hq' with e | e
        · exact j2 q e
        · rw [List.mem_singleton.1 e]; exact hq
    · have hi : i = ps.length := by omega
      subst hi
      rw [List.take_length] at j2
      refine .lss ?_
      refine .condF (by first | assumption | omega) ?_
      refine .blk ?_
      refine .ret1 (by rfl) ?_
      intro m hobj
      exact ⟨.inl ⟨rfl, j2⟩, h.objs hobj⟩
  · exact ⟨0, by omega, by simp, rfl, h⟩

/-- What DeleteFunc leaves. -/
theorem cut_end {m : Mem} {fr : Heap} {id ver k : Nat} {cs : List AV} {es : List (Int × Int)} (hu : unitOf ver = 2) (hk : k < es.length) (hc : PRow cs es) (hlen : es.length < 4294967296)
    {kk : KV} {P : AV → Mem → Prop} (hs : Sep m ((id, .row ver cs) :: fr)) (hP : ∀ m' x H, x.untag = x → RowR x H 2 ((es.take k).map pV) → Sep m' (H ++ fr) → Tells (kk x m') P) :
    Tells (Am.vK (aSlice 2 (.ref id ver 0 es.length) (some (vI k)) none) m fun a0 m1 => clearK 2 [(.int .i64 0), (.int .i64 0)] a0 m1 fun a2 m3 => Am.vK (aSlice 2 (.ref id ver 0 es.length) none (some (vI k))) m3 kk) P := by
  have hr := prow_pre hc (List.take_prefix k es)
  have hlr : (es.take k).length = k := by rw [List.length_take]; omega
  have hcl := hc.1
  refine Tells.sliceFrom (j := k) rfl hk hu (by omega) ?_
  refine Tells.clearR (cs := cs) (off := 0 + k * 2) (len := es.length - k) (n := 2) hs .z (by omega) rfl (by omega) (by omega) ?_
  intro m' hs'
  by_cases h0 : 0 < k
  · refine Tells.sliceTo (j := k) rfl (by omega) h0 hu (by omega) ?_
    have hrep : (rep [AV.int .i64 0, AV.int .i64 0] (es.length - k)).length = (es.length - k) * 2 := by
      generalize es.length - k = n
      induction n with
      | zero => rfl
      | succ n ih => simp only [rep, List.length_append, ih, List.length_cons, List.length_nil]; omega
    have hr2 := prow_zero hr (n := (es.length - k) * 2) (by rw [hlr]; omega) hrep
    rw [Nat.zero_add] at hs'
    rw [hlr] at hr2
    have h1 := prow_take hr2
    have h2 := hr2.1
    rw [hlr] at h1 h2
    exact hP m' _ [(id, .row ver _)] rfl (.inr ⟨id, ver, _, hu, by rw [List.length_map, hlr], rfl, by rw [List.length_map, hlr]; exact h1, by rw [List.length_map, hlr]; exact h2, by rw [List.length_map, hlr]; exact h0⟩) hs'
  · have hk0 : k = 0 := by omega
    subst hk0
    refine Tells.sliceNil rfl hu (by omega) ?_
    exact hP m' _ [] rfl (.inl ⟨.shared, 2, rfl, by rw [List.take_zero]; rfl, rfl⟩) hs'.tail

set_option maxHeartbeats 8000000 in
theorem call70 {m : Mem} {fr H : Heap} {x w : AV} {c : Nat} {ps : List (Int × Int)} {zs : List Int} (hx : RowR x H 2 (ps.map pV)) (hu : x.untag = x) (hl : ps.length < 4294967296) (hc : Has fr c (.row 0 [w])) (hw : ISl w fr zs) (hlz : zs.length < 4294967296) (hs : Sep m (H ++ fr)) :
    Tells (Am.Call T 70 [x, .func 71 [] [.ptr c 0 0]] m) fun r m' => r.untag = r ∧ ∃ H', RowR r H' 2 ((ps.filter fun p => !outP zs p).map pV) ∧ Sep m' (H' ++ fr) := by
  have hps := hx.psl' (l := fr) hu
  have hcH : Has (H ++ fr) c (.row 0 [w]) := by
    rcases hx with ⟨_, _, _, _, rfl⟩ | ⟨_, _, _, _, _, rfl, _⟩
    · exact hc
    · exact .s hc
  refine Tells.fn (ps.length + 2) rfl F70_ok rfl ?_
  show Tells (S70 (Am.Call T) (ps.length + 2) m x (.func 71 [] [.ptr c 0 0])) _
  have h : Sep ⟨m.objs, none⟩ (H ++ fr) := hs.objs rfl
  unfold S70 G70
  refine Tells.call (args := [x, .func 71 [] [.ptr c 0 0]]) (by simp [hu]; rfl) (call90 hps hl hcH hw.under hlz h) ?_
  rintro _ m ⟨⟨rfl, hno⟩ | ⟨i, p, rfl, hp, hq, hno⟩, h⟩
  · refine Tells.eql ?_
    refine Tells.condT rfl ?_
    refine Tells.ret1 hu ?_
    intro m hobj
    refine ⟨hu, H, ?_, h.objs hobj⟩
    rw [List.filter_eq_self.2 fun y hy => by rw [hno y hy]; rfl]
    exact hx
  · have hil := (List.getElem?_eq_some_iff.1 hp).1
    rcases hx with ⟨g, k, rfl, h1, rfl⟩ | ⟨id, ver, cs, hun, rfl, rfl, h3, h4, h5⟩
    · have hl0 : ps = [] := by simpa using h1
      subst hl0
      simp at hil
    · rw [List.length_map] at h3 h4 h5 ⊢
      have hpr := prow_of h3 h4
      have ne1 : ¬ (i : Int) = -1 := by omega
      refine Tells.eql ?_
      refine Tells.condF ne1 ?_
      unfold S70_4 G70_4
      refine .add (by rfl) (by omega) ?_
      refine Tells.loop (fun j vs m => ∃ (q k : Nat) (es : List (Int × Int)) (cs' : List AV), q + j = ps.length ∧ InF (outP zs) ps q k es ∧ PRow cs' es ∧ vs = [.ref id ver 0 ps.length, .func 71 [] [.ptr c 0 0], vI k, vI q] ∧ Sep m ((id, .row ver cs') :: fr)) ?_ (i := ps.length - (i + 1)) (by omega) ?_
      · rintro j vs m L2 ⟨q, k, es, cs', t1, t2, t3, rfl, h⟩ hL
        have hkl := t2.lt
        have hel := t2.len
        unfold S70_2 G70_2
        by_cases hq2 : q < ps.length
        · obtain ⟨a, ha⟩ : ∃ a, ps[q]? = some a := ⟨_, List.getElem?_eq_getElem (by omega)⟩
          have ha' := (t2.rest q (by omega)).trans ha
          refine .lenR ?_
          refine .lss ?_
          refine .condT (by first | assumption | omega) ?_
          unfold S70_1 G70_1
          refine Tells.indexR (j := q) rfl hq2 ?_
          refine Tells.loadP h .z t3 ha' (by omega) ?_
          refine Tells.new h ?_
          intro nw m h
          refine Tells.storeA (n := 2) (xs := [vZ a.1, vZ a.2]) h .z rfl rfl ?_
          intro m h
          refine Tells.loadA h .z rfl ?_
          refine Tells.call (args := [pV a, .ptr c 0 0]) rfl (call71 (.s (.s hc)) hw.skip.skip hlz h) ?_
          rintro _ m ⟨rfl, h⟩
          refine Tells.not ?_
          cases hd : outP zs a with
          | false =>
            refine Tells.condtt ?_
            refine Tells.loadA h .z rfl ?_
            refine Tells.indexR (j := k) rfl (by omega) ?_
            refine Tells.storeP h.tail t3 (j := k) (p := a) (by omega) (by omega) ?_
            intro m cs2 t3 h
            refine .add (by rfl) (by omega) ?_
            refine .add (by rfl) (by omega) ?_
            exact hL (j - 1) _ _ (by omega) ⟨q + 1, k + 1, es.set k a, cs2, by omega, t2.put ha hd, t3, rfl, h⟩
          | true =>
            refine Tells.condff ?_
            unfold S70_0 G70_0
            refine .add (by rfl) (by omega) ?_
            exact hL (j - 1) _ _ (by omega) ⟨q + 1, k, es, cs', by omega, t2.skip ha hd, t3, rfl, h.tail⟩
        · have hqe : q = ps.length := by omega
          refine .lenR ?_
          refine .lss ?_
          refine .condF (by first | assumption | omega) ?_
          refine .blk ?_
          subst hqe
          unfold S70_3 G70_3
          have hfl : es.take k = ps.filter fun p => !outP zs p := by
            have := t2.pre
            rwa [List.take_length] at this
          rw [← hel]
          refine cut_end hun (by omega) t3 (by omega) h ?_
          intro m' x' H' hxu hxr h
          rw [hfl] at hxr
          refine Tells.ret1 hxu ?_
          intro m hobj
          exact ⟨hxu, H', hxr, h.objs hobj⟩
      · exact ⟨i + 1, i, ps, cs, by omega, InF.start hp hq hno, hpr, rfl, h⟩

theorem call35 {m : Mem} {l : Heap} {v w : AV} {ps : List (Int × Int)} {zs : List Int} (hv : PSl v l ps) (hw : ISl w l zs) (hl : ps.length < 4294967296) (hlz : zs.length < 4294967296) (hs : Sep m l) :
    Tells (Am.Call T 35 [v, w] m) fun r m' => r.untag = r ∧ ∃ H, RowR r H 2 ((wioL ps zs).map pV) ∧ Sep m' (H ++ l) := by
  obtain ⟨hc1, hc2⟩ := hw.cell
  refine Tells.fn 9 rfl F35_ok rfl ?_
  show Tells (S35 (Am.Call T) 9 m v w) _
  have h : Sep ⟨m.objs, none⟩ l := hs.objs rfl
  unfold S35 G35
  refine Tells.box1 h hc1 hc2 ?_
  intro c m h
  refine Tells.call (args := [v]) (by simp [hv.untag]) (call32 hv.skip hl h) ?_
  rintro r m ⟨H, hr, h⟩
  refine Tells.call (args := [r.untag, .func 71 [] [.ptr c 0 0]]) rfl (call70 hr.un hr.uu (Nat.lt_of_le_of_lt ofP_len hl) .z hw.skip hlz h) ?_
  rintro r m ⟨hru, H2, hr, h⟩
  refine Tells.ret1 hru ?_
  intro m' hobj
  refine ⟨hru, H2, hr, ?_⟩
  exact Am.Sep.right (H := [_]) (Am.Sep.hfront (l1 := H2) (H := [_]) (l2 := l) (h.objs hobj))
end Go.Proofs.P17
namespace Go.Proofs.P17
set_option linter.all false
open Go Go.Am
attribute [local irreducible] loadK storeK newK boxK tipK makeMapK buildTK buildK buildSliceK nilK binK unK condK convK eqvK pickK gK gDK vK extractK fieldK lookupK mapUpdateK appendK min2K max2K retK makeSliceK freezeK bytesK loopV blkK stayK sameK rangeK callK aFieldAddr aIndexAddr aIndexAddrA aLen aIndex aSlice

/-- A row's cells, place by place. -/
def IRow (cs : List AV) (es : List Int) : Prop := es.length ≤ cs.length ∧ ∀ (j : Nat) (z : Int), es[j]? = some z → cs[j]? = some (vZ z)
theorem irow_of {cs : List AV} {es : List Int} (h : cs.take (es.length * 1) = flat (es.map vZ)) (hl : es.length * 1 ≤ cs.length) : IRow cs es := by
  refine ⟨by omega, fun j z hz => ?_⟩
  have hj := (List.getElem?_eq_some_iff.1 hz).1
  have := congrArg (fun q => q[j]?) h
  simp only [flat_vZ, Nat.mul_one, List.getElem?_take, List.getElem?_map, hz] at this
  rw [if_pos hj] at this
  simpa using this
theorem irow_take {cs : List AV} {es : List Int} (h : IRow cs es) : cs.take (es.length * 1) = flat (es.map vZ) := by
  rw [flat_vZ, Nat.mul_one]
  apply List.ext_getElem?
  intro t
  by_cases ht : t < es.length
  · rw [List.getElem?_take, if_pos ht, List.getElem?_map, h.2 t _ (List.getElem?_eq_getElem ht), List.getElem?_eq_getElem ht]
    rfl
  · rw [List.getElem?_eq_none (by rw [List.length_take]; omega), List.getElem?_eq_none (by rw [List.length_map]; omega)]
theorem irow_set {cs : List AV} {es : List Int} (h : IRow cs es) {k : Nat} (hk : k < es.length) (z : Int) : IRow (cs.set k (vZ z)) (es.set k z) := by
  have hl := h.1
  refine ⟨by rw [List.length_set, List.length_set]; exact hl, fun j y hy => ?_⟩
  by_cases e : k = j
  · subst e
    rw [List.getElem?_set_self (by omega)] at hy ⊢
    cases hy
    rfl
  · rw [List.getElem?_set_ne e] at hy ⊢
    exact h.2 j y hy
theorem irow_zero {cs : List AV} {es : List Int} (h : IRow cs es) {k : Nat} (hk : k ≤ es.length) {zs : List AV} (hz : zs.length = es.length - k) : IRow (setCells cs k zs) (es.take k) := by
  have hl := h.1
  have hsp := spliced_get (l := cs) (xs := zs) (off := k) (by omega)
  have hlen : (setCells cs k zs).length = cs.length := by
    simp only [setCells, List.length_append, List.length_take, List.length_drop]; omega
  refine ⟨by rw [hlen, List.length_take]; omega, fun j y hy => ?_⟩
  have hj := (List.getElem?_eq_some_iff.1 hy).1
  rw [List.length_take] at hj
  rw [List.getElem?_take, if_pos (by omega)] at hy
  unfold setCells
  rw [hsp, if_neg (by omega)]
  exact h.2 j y hy

set_option maxHeartbeats 4000000 in
theorem call91 {m : Mem} {l : Heap} {x : AV} {zs : List Int} (hx : ISl x l zs) (hl : zs.length < 4294967296) (hs : Sep m l) :
    Tells (Am.Call T 91 [x, .func 74 [] []] m) fun r m' => ((r = .int .i64 (-1) ∧ ∀ z ∈ zs, decide (z < 0) = false) ∨ ∃ i z, r = vI i ∧ zs[i]? = some z ∧ decide (z < 0) = true ∧ ∀ q ∈ zs.take i, decide (q < 0) = false) ∧ Sep m' l := by
  refine Tells.fn (zs.length + 2) rfl F91_ok rfl ?_
  show Tells (S91 (Am.Call T) (zs.length + 2) m x (.func 74 [] [])) _
  have h : Sep ⟨m.objs, none⟩ l := hs.objs rfl
  unfold S91 G91
  refine Tells.isLen hx ?_
  refine Tells.loop (fun j vs m => ∃ i : Nat, i + j = zs.length ∧ (∀ q ∈ zs.take i, decide (q < 0) = false) ∧ vs = [x, .func 74 [] [], vI zs.length, vI i] ∧ Sep m l) ?_ (i := zs.length) (by omega) ?_
  · rintro j vs m L2 ⟨i, j1, j2, rfl, h⟩ hL
    unfold S91_2 G91_2
    by_cases hi : i < zs.length
    · obtain ⟨p, hp⟩ : ∃ p, zs[i]? = some p := ⟨_, List.getElem?_eq_getElem hi⟩
      refine .lss ?_
      refine .condT (by first | assumption | omega) ?_
      refine .isIdx hx (j := i) (by rfl) hp ?_; intro ad had
      refine .iaLoad h ‹_› ?_
      refine Tells.call (args := [vZ p]) rfl (call74 h) ?_
      rintro _ m ⟨rfl, h⟩
      cases hq : decide (p < 0) with
      | true =>
        refine .condtt ?_
        refine .blkR ?_
        refine .ret1 (by rfl) ?_
        intro m hobj
        exact ⟨.inr ⟨i, p, rfl, hp, hq, j2⟩, h.objs hobj⟩
      | false =>
        refine .condff ?_
        refine .add (by rfl) (by omega) ?_
        refine hL (j - 1) _ _ (by omega) ⟨i + 1, by omega, ?_, rfl, h⟩
        rw [List.take_add_one, hp]
        intro q hq'
        rcases List.mem_append.1 hq' with e | e
        · exact j2 q e
        · rw [List.mem_singleton.1 e]; exact hq
    · have hi : i = zs.length := by omega
      subst hi
      rw [List.take_length] at j2
      refine .lss ?_
      refine .condF (by first | assumption | omega) ?_
      refine .blk ?_
      refine .ret1 (by rfl) ?_
      intro m hobj
      exact ⟨.inl ⟨rfl, j2⟩, h.objs hobj⟩
  · exact ⟨0, by omega, by simp, rfl, h⟩

/-- What DeleteFunc leaves. -/
theorem cut_endI {m : Mem} {fr : Heap} {id ver k : Nat} {cs : List AV} {es : List Int} (hu : unitOf ver = 1) (hk : k < es.length) (hc : IRow cs es)
    {kk : KV} {P : AV → Mem → Prop} (hs : Sep m ((id, .row ver cs) :: fr)) (hP : ∀ m' x H, x.untag = x → RowR x H 1 ((es.take k).map vZ) → Sep m' (H ++ fr) → Tells (kk x m') P) :
    Tells (Am.vK (aSlice 1 (.ref id ver 0 es.length) (some (vI k)) none) m fun a0 m1 => clearK 1 [(.int .i64 0)] a0 m1 fun _ m3 => Am.vK (aSlice 1 (.ref id ver 0 es.length) none (some (vI k))) m3 kk) P := by
  have hlr : (es.take k).length = k := by rw [List.length_take]; omega
  have hcl := hc.1
  refine Tells.sliceFrom (j := k) rfl hk hu (by omega) ?_
  refine Tells.clearR (cs := cs) (off := 0 + k * 1) (len := es.length - k) (n := 1) hs .z (by omega) rfl (by omega) (by omega) ?_
  intro m' hs'
  by_cases h0 : 0 < k
  · refine Tells.sliceTo (j := k) rfl (by omega) h0 hu (by omega) ?_
    have hrep : (rep [AV.int .i64 0] (es.length - k)).length = es.length - k := by
      generalize es.length - k = n
      induction n with
      | zero => rfl
      | succ n ih => simp only [rep, List.length_append, ih, List.length_cons, List.length_nil]; omega
    have hr2 := irow_zero hc (k := k) (by omega) hrep
    rw [Nat.zero_add, Nat.mul_one] at hs'
    have h1 := irow_take hr2
    have h2 := hr2.1
    rw [hlr] at h1 h2
    exact hP m' _ [(id, .row ver _)] rfl (.inr ⟨id, ver, _, hu, by rw [List.length_map, hlr], rfl, by rw [List.length_map, hlr]; exact h1, by rw [List.length_map, hlr]; omega, by rw [List.length_map, hlr]; exact h0⟩) hs'
  · have hk0 : k = 0 := by omega
    subst hk0
    refine Tells.sliceNil rfl hu (by omega) ?_
    exact hP m' _ [] rfl (.inl ⟨.shared, 1, rfl, by rw [List.take_zero]; rfl, rfl⟩) hs'.tail

set_option maxHeartbeats 8000000 in
theorem call73 {m : Mem} {fr H : Heap} {x : AV} {zs : List Int} (hx : RowR x H 1 (zs.map vZ)) (hu : x.untag = x) (hl : zs.length < 4294967296) (hs : Sep m (H ++ fr)) :
    Tells (Am.Call T 73 [x, .func 74 [] []] m) fun r m' => r.untag = r ∧ ∃ H', RowR r H' 1 ((posL zs).map vZ) ∧ Sep m' (H' ++ fr) := by
  have hps := hx.isl (l := fr) hu
  refine Tells.fn (zs.length + 2) rfl F73_ok rfl ?_
  show Tells (S73 (Am.Call T) (zs.length + 2) m x (.func 74 [] [])) _
  have h : Sep ⟨m.objs, none⟩ (H ++ fr) := hs.objs rfl
  unfold S73 G73
  refine Tells.call (args := [x, .func 74 [] []]) (by simp [hu]; rfl) (call91 hps hl h) ?_
  rintro _ m ⟨⟨rfl, hno⟩ | ⟨i, p, rfl, hp, hq, hno⟩, h⟩
  · refine Tells.eql ?_
    refine Tells.condT rfl ?_
    refine Tells.ret1 hu ?_
    intro m hobj
    refine ⟨hu, H, ?_, h.objs hobj⟩
    unfold posL
    rw [List.filter_eq_self.2 fun y hy => by rw [hno y hy]; rfl]
    exact hx
  · have hil := (List.getElem?_eq_some_iff.1 hp).1
    rcases hx with ⟨g, k, rfl, h1, rfl⟩ | ⟨id, ver, cs, hun, rfl, rfl, h3, h4, h5⟩
    · have hl0 : zs = [] := by simpa using h1
      subst hl0
      simp at hil
    · rw [List.length_map] at h3 h4 h5 ⊢
      have hpr := irow_of h3 h4
      have ne1 : ¬ (i : Int) = -1 := by omega
      refine Tells.eql ?_
      refine Tells.condF ne1 ?_
      unfold S73_4 G73_4
      refine .add (by rfl) (by omega) ?_
      refine Tells.loop (fun j vs m => ∃ (q k : Nat) (es : List Int) (cs' : List AV), q + j = zs.length ∧ InF (fun z => decide (z < 0)) zs q k es ∧ IRow cs' es ∧ vs = [.ref id ver 0 zs.length, .func 74 [] [], vI k, vI q] ∧ Sep m ((id, .row ver cs') :: fr)) ?_ (i := zs.length - (i + 1)) (by omega) ?_
      · rintro j vs m L2 ⟨q, k, es, cs', t1, t2, t3, rfl, h⟩ hL
        have hkl := t2.lt
        have hel := t2.len
        have hcl := t3.1
        unfold S73_2 G73_2
        by_cases hq2 : q < zs.length
        · obtain ⟨a, ha⟩ : ∃ a, zs[q]? = some a := ⟨_, List.getElem?_eq_getElem (by omega)⟩
          have ha' := (t2.rest q (by omega)).trans ha
          refine .lenR ?_
          refine .lss ?_
          refine .condT (by first | assumption | omega) ?_
          unfold S73_1 G73_1
          refine Tells.indexR1 (j := q) rfl hq2 ?_
          refine Tells.load1 h .z (by rw [Nat.zero_add]; exact t3.2 q a ha') ?_
          refine Tells.call (args := [vZ a]) rfl (call74 h) ?_
          rintro _ m ⟨rfl, h⟩
          cases hd : decide (a < 0) with
          | false =>
            refine Tells.not ?_
            refine Tells.condtt ?_
            refine Tells.indexR1 (j := k) rfl (by omega) ?_
            rw [Nat.zero_add]
            refine Tells.storeR h .z (by omega) rfl rfl ?_
            intro m h
            refine .add (by rfl) (by omega) ?_
            refine .add (by rfl) (by omega) ?_
            exact hL (j - 1) _ _ (by omega) ⟨q + 1, k + 1, es.set k a, _, by omega, t2.put ha hd, irow_set t3 (by omega) a, rfl, h⟩
          | true =>
            refine Tells.not ?_
            refine Tells.condff ?_
            unfold S73_0 G73_0
            refine .add (by rfl) (by omega) ?_
            exact hL (j - 1) _ _ (by omega) ⟨q + 1, k, es, cs', by omega, t2.skip ha hd, t3, rfl, h⟩
        · have hqe : q = zs.length := by omega
          refine .lenR ?_
          refine .lss ?_
          refine .condF (by first | assumption | omega) ?_
          refine .blk ?_
          subst hqe
          unfold S73_3 G73_3
          have hfl : es.take k = posL zs := by
            have := t2.pre
            rwa [List.take_length] at this
          rw [← hel]
          refine cut_endI hun (by omega) t3 h ?_
          intro m' x' H' hxu hxr h
          rw [hfl] at hxr
          refine Tells.ret1 hxu ?_
          intro m hobj
          exact ⟨hxu, H', hxr, h.objs hobj⟩
      · exact ⟨i + 1, i, zs, cs, by omega, InF.start hp hq hno, hpr, rfl, h⟩

theorem sortI_len {zs : List Int} : (sortI zs).length = zs.length := List.length_mergeSort _

theorem call56 {m : Mem} {fr H : Heap} {x : AV} {zs : List Int} (hx : RowR x H 1 (zs.map vZ)) (hl : zs.length < 4294967296) (hs : Sep m (H ++ fr)) :
    Tells (Am.Call T 56 [x] m) fun r m' => ∃ H', RowR x H' 1 ((sortI zs).map vZ) ∧ Sep m' (H' ++ fr) := by
  rcases hx with ⟨g, k, rfl, h1, rfl⟩ | ⟨id, ver, cs, hun, rfl, rfl, h3, h4, h5⟩
  · have hl0 : zs = [] := by simpa using h1
    subst hl0
    exact Tells.orc (r := (.tuple [], m)) rfl rfl ⟨[], .inl ⟨_, _, rfl, by simp [sortI], rfl⟩, hs⟩
  · rw [List.length_map] at h3 h4 h5 ⊢
    refine Tells.orc (r := (.tuple [], m.put id (.row ver ((sortI zs).map (AV.int .i64) ++ cs.drop zs.length)))) rfl ?_ ⟨[(id, .row ver ((sortI zs).map (AV.int .i64) ++ cs.drop zs.length))], .inr ⟨id, ver, _, hun, by rw [List.length_map, sortI_len], rfl, ?_, ?_, ?_⟩, hs.put .z⟩
    · show rowO sortI (fun _ _ _ _ => .tuple []) (fun _ => .tuple []) [.ref id ver 0 zs.length] m = _
      simp only [rowO, hs.get .z]
      rw [Nat.mul_one, flat_vZ] at h3
      rw [if_pos ⟨trivial, trivial, by omega, h5, by omega⟩, h3, show zs.map vZ = zs.map (AV.int .i64) from rfl, intsOf_ints]
    · rw [flat_vZ, List.length_map, Nat.mul_one, List.take_append_of_le_length (by rw [List.length_map]; exact Nat.le_refl _), List.take_of_length_le (by rw [List.length_map]; exact Nat.le_refl _)]
    · rw [List.length_append, List.length_map, sortI_len, List.length_drop]; omega
    · rw [List.length_map, sortI_len]; exact h5

theorem compI_len {zs : List Int} : (Lib.compact zs).length ≤ zs.length := compact_le zs

theorem call57 {m : Mem} {fr H : Heap} {x : AV} {zs : List Int} (hx : RowR x H 1 ((sortI zs).map vZ)) (hl : zs.length < 4294967296) (hs : Sep m (H ++ fr)) :
    Tells (Am.Call T 57 [x] m) fun r m' => r.untag = r ∧ ∃ H', RowR r H' 1 ((Lib.compact (sortI zs)).map vZ) ∧ Sep m' (H' ++ fr) := by
  rcases hx with ⟨g, k, rfl, h1, rfl⟩ | ⟨id, ver, cs, hun, rfl, rfl, h3, h4, h5⟩
  · have hl0 : sortI zs = [] := by simpa using h1
    rw [hl0]
    exact Tells.orc (r := (.list .shared k [], m)) rfl rfl ⟨rfl, [], .inl ⟨_, _, rfl, rfl, rfl⟩, hs⟩
  · rw [List.length_map] at h3 h4 h5 ⊢
    have hcl := compI_len (zs := sortI zs)
    have hpos : 0 < (Lib.compact (sortI zs)).length := by
      obtain ⟨z, hz⟩ : ∃ z, z ∈ zs := by
        rw [sortI_len] at h5
        exact ⟨zs[0], List.getElem_mem h5⟩
      exact List.length_pos_of_mem (sort_up.2 z |>.2 hz)
    refine Tells.orc (r := (.ref id ver 0 (Lib.compact (sortI zs)).length, m.put id (.row ver ((compI (sortI zs)).map (AV.int .i64) ++ cs.drop (sortI zs).length)))) rfl ?_ ⟨rfl, [(id, .row ver ((compI (sortI zs)).map (AV.int .i64) ++ cs.drop (sortI zs).length))], .inr ⟨id, ver, _, hun, by rw [List.length_map], rfl, ?_, ?_, ?_⟩, hs.put .z⟩
    · show compO [.ref id ver 0 (sortI zs).length] m = _
      simp only [compO, rowO, hs.get .z]
      rw [Nat.mul_one, flat_vZ] at h3
      rw [if_pos ⟨trivial, trivial, by omega, h5, by rw [sortI_len]; omega⟩, h3, show (sortI zs).map vZ = (sortI zs).map (AV.int .i64) from rfl, intsOf_ints]
    · rw [flat_vZ, List.length_map, Nat.mul_one, compI, List.map_append, List.append_assoc, List.take_append_of_le_length (by rw [List.length_map]; exact Nat.le_refl _), List.take_of_length_le (by rw [List.length_map]; exact Nat.le_refl _)]
    · rw [List.length_append, List.length_map, List.length_map, compI, List.length_append]; omega
    · rw [List.length_map]; exact hpos

theorem posL_len {zs : List Int} : (posL zs).length ≤ zs.length := List.length_filter_le _ _
theorem plcL_len {zs : List Int} : (plcL zs).length ≤ zs.length := by
  have h1 := compI_len (zs := sortI (posL zs))
  rw [sortI_len] at h1
  exact Nat.le_trans h1 posL_len

theorem call37 {m : Mem} {l : Heap} {v : AV} {zs : List Int} (hv : ISl v l zs) (hl : zs.length < 4294967296) (hs : Sep m l) :
    Tells (Am.Call T 37 [v] m) fun r m' => r.untag = r ∧ ∃ H, RowR r H 1 ((plcL zs).map vZ) ∧ Sep m' (H ++ l) := by
  have hpl := posL_len (zs := zs)
  refine Tells.fn 9 rfl F37_ok rfl ?_
  show Tells (S37 (Am.Call T) 9 m v) _
  have h : Sep ⟨m.objs, none⟩ l := hs.objs rfl
  unfold S37 G37
  refine Tells.call (args := [v]) (by simp [hv.untag]) (call72 hv hl h) ?_
  rintro r m ⟨H, hr, h0, h⟩
  have hrr : r.untag.untag = r.untag := by rcases hr with ⟨k, rfl, _⟩ | ⟨id, ver, _, rfl, _⟩ <;> rfl
  have hr := RowO.to hr vZs_cells fun e => h0 (by simpa using e)
  refine Tells.call (args := [r.untag, .func 74 [] []]) rfl (call73 hr hrr hl h) ?_
  rintro r m ⟨hru, H, hr, h⟩
  refine Tells.call (args := [r]) (by simp [hru]) (call56 hr (by omega) h) ?_
  rintro _ m ⟨H, hr, h⟩
  refine Tells.call (args := [r]) (by simp [hru]) (call57 hr (by omega) h) ?_
  rintro r m ⟨hru, H, hr, h⟩
  refine Tells.ret1 hru ?_
  intro m' hobj
  exact ⟨hru, H, hr, h.objs hobj⟩
end Go.Proofs.P17
