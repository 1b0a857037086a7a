/- The walk through clones; appending to a row whose front is known. -/
import Derived.Test.YtdddcofggemnkaaP17V7
namespace Go.Proofs.P17
set_option linter.all false
open Go Go.Am

/-- A row of which the front is known. -/
def RowA (v : AV) (H : Heap) (n : Nat) (es : List AV) : Prop := ∃ id ver cs, unitOf ver = n ∧ v = .ref id ver 0 es.length ∧ H = [(id, .row ver cs)] ∧ cs.take (es.length * n) = flat es ∧ es.length * n ≤ cs.length

theorem RowR.rowA {v : AV} {H : Heap} {n : Nat} {es : List AV} (h : RowR v H n es) (h0 : es ≠ []) : RowA v H n es := by
  rcases h with ⟨_, _, _, e, _⟩ | ⟨id, ver, cs, h1, h2, h3, h4, h5, _⟩
  · exact absurd e h0
  · exact ⟨id, ver, cs, h1, h2, h3, h4, h5⟩
theorem RowA.rowR {v : AV} {H : Heap} {n : Nat} {es : List AV} (h : RowA v H n es) (h0 : es ≠ []) : RowR v H n es := by
  obtain ⟨id, ver, cs, h1, h2, h3, h4, h5⟩ := h
  exact .inr ⟨id, ver, cs, h1, h2, h3, h4, h5, List.length_pos_iff.2 h0⟩
theorem RowA.cell {v : AV} {H : Heap} {n : Nat} {es : List AV} (h : RowA v H n es) : v.cells = [v] ∧ v.solid = true := by
  obtain ⟨id, ver, cs, _, rfl, _⟩ := h
  exact ⟨rfl, rfl⟩
theorem RowR.cell {v : AV} {H : Heap} {n : Nat} {es : List AV} (h : RowR v H n es) : v.cells = [v] ∧ v.solid = true := by
  rcases h with ⟨_, _, rfl, _, _⟩ | ⟨id, ver, cs, _, rfl, _⟩ <;> exact ⟨rfl, rfl⟩
theorem RowR.un {v : AV} {H : Heap} {n : Nat} {es : List AV} (h : RowR v H n es) : RowR v.untag H n es := by
  rcases h with ⟨g, k, rfl, h1, h2⟩ | ⟨id, ver, cs, h1, rfl, h3⟩
  · exact .inl ⟨.shared, k, rfl, h1, h2⟩
  · exact .inr ⟨id, ver, cs, h1, rfl, h3⟩

theorem _root_.Go.Am.Tells.appendRowA {m : Mem} {l : Heap} {P : AV → Mem → Prop} {v : AV} {H : Heap} {n bytes hint : Nat} {b : AV} {es ys : List AV} (ho : RowA v H n es) (h : Sep m (H ++ l)) (he : m.elems n b = some ys) (hb : (es.length + ys.length) * bytes ≤ room ∧ es.length + ys.length ≤ room) (hn : 0 < n)
    (hu : ∀ y ∈ ys, y.untag = y) (hc : ∀ y ∈ ys, y.cells.length = n) {k : KV} (hk : ∀ v' H' m', RowA v' H' n (es ++ ys) → Sep m' (H' ++ l) → Tells (k v' m') P) : Tells (appendK n bytes hint v b m k) P := by
  have e0 : appendK n bytes hint v b m k = rK (aAppend m n bytes v ys hint) k := by simp only [appendK, he, untag_all hu]
  rw [e0]
  obtain ⟨id, ver, cs, hun, rfl, rfl, htk, hle⟩ := ho
  by_cases hnil : ys = []
  · subst hnil
    have e1 : aAppend m n bytes (.ref id ver 0 es.length) [] hint = some (.ref id ver 0 es.length, m) := by
      simp only [aAppend]
      rw [if_pos ⟨hun, trivial, by simpa using hb.1, by simpa using hb.2, by simp, hn⟩]
      rfl
    rw [e1]
    exact hk _ _ m ⟨id, ver, cs, hun, by simp, rfl, by simpa using htk, by simpa using hle⟩ h
  · have hu : Upd ([(id, AObj.row ver cs)] ++ l) id (.row ver cs) (.row (ver + 65536) (flat (es ++ ys))) ([(id, AObj.row (ver + 65536) (flat (es ++ ys)))] ++ l) := .z
    have hlen : (flat (es ++ ys)).length = (es ++ ys).length * n := by
      rw [flatW_append, List.length_append, ← htk, List.length_take, Nat.min_eq_left hle, flatW_len hc, List.length_append, Nat.add_mul]
    refine Tells.of_eq ?_ (hk (.ref id (ver + 65536) 0 (es.length + ys.length)) _ _ ⟨id, ver + 65536, flat (es ++ ys), by rw [← hun]; simp [unitOf], by simp, rfl, by rw [← hlen]; exact List.take_length, by rw [hlen]; exact Nat.le_refl _⟩ (h.put hu))
    simp only [aAppend]
    rw [if_pos ⟨hun, by trivial, by simpa using hb.1, by simpa using hb.2, size_all hc, hn⟩, if_neg hnil]
    simp only [h.get hu.has, hle, htk, and_self, if_true, rK, flatW_append]

theorem RowR.uu {v : AV} {H : Heap} {n : Nat} {es : List AV} (h : RowR v H n es) : v.untag.untag = v.untag := by
  rcases h with ⟨g, k, rfl, h1, h2⟩ | ⟨id, ver, cs, h1, rfl, h3⟩ <;> rfl
theorem RowR.psl' {x : AV} {H l : Heap} {ps : List (Int × Int)} (h : RowR x H 2 (ps.map pV)) (hu : x.untag = x) : PSl x (H ++ l) ps := by
  have := RowR.psl (x := x) (l := l) (by rw [hu]; exact h)
  rwa [hu] at this
theorem ofP_len {ps : List (Int × Int)} : (ofP ps).length ≤ ps.length := by
  have h1 : (ofP ps).length ≤ (sortP (goods ps)).length := compTo_le
  have h2 : (sortP (goods ps)).length = (goods ps).length := List.length_mergeSort _
  have h3 := goods_len (ps := ps)
  omega
theorem flat_vZ : ∀ {zs : List Int}, flat (zs.map vZ) = zs.map vZ := by
  intro zs
  induction zs with
  | nil => rfl
  | cons z zs ih =>
    show (vZ z).cells ++ flat (zs.map vZ) = _
    rw [ih]; rfl
theorem RowR.isl {x : AV} {H l : Heap} {zs : List Int} (h : RowR x H 1 (zs.map vZ)) (hu : x.untag = x) : ISl x (H ++ l) zs := by
  rcases h with ⟨g, k, rfl, h1, h2⟩ | ⟨id, ver, cs, h1, rfl, rfl, h4, h5, h6⟩
  · have h1 : zs = [] := by simpa using h1
    subst h1
    have hg : g = .shared := by cases g <;> first | rfl | (simp [AV.untag] at hu)
    subst hg
    exact .inl ⟨k, rfl, .inr rfl⟩
  · rw [List.length_map] at *
    refine .inr ⟨id, ver, 0, cs, by simp, .z, by omega, fun j z hz => ?_⟩
    have hj := (List.getElem?_eq_some_iff.1 hz).1
    have := congrArg (fun q => q[j]?) h4
    simp only [flat_vZ, Nat.mul_one, List.getElem?_take, List.getElem?_map, hz] at this
    rw [if_pos hj] at this
    simpa using this

theorem call69 {m : Mem} {l : Heap} {v : AV} {ps : List (Int × Int)} (hv : PSl v l ps) (hl : ps.length < 4294967296) (hs : Sep m l) :
    Tells (Am.Call T 69 [v] m) fun r m' => ∃ H, RowO r H 2 (ps.map pV) ∧ (ps = [] → H = []) ∧ Sep m' (H ++ l) := by
  have he := hv.elems hs
  by_cases h0 : ps = []
  · subst h0
    refine Tells.orc (r := (.list .full 2 [], m)) rfl ?_ ⟨[], RowO.nil, fun _ => rfl, hs⟩
    show cloneO 2 16 [v] m = _
    simp only [cloneO, he, List.map_nil, if_true]
  · refine Tells.orc (r := (.ref m.objs.length 2 0 (ps.map pV).length, m.push (.row 2 (flat (ps.map pV))))) rfl ?_ ⟨[(m.objs.length, .row 2 (flat (ps.map pV)))], .inr ⟨m.objs.length, 2, rfl, rfl, rfl⟩, fun e => absurd e h0, hs.push _⟩
    show cloneO 2 16 [v] m = _
    simp only [cloneO, he]
    rw [if_neg (by simpa using h0), if_pos (by simp only [room, List.length_map]; omega), untag_all pVs_untag]
theorem call72 {m : Mem} {l : Heap} {v : AV} {zs : List Int} (hv : ISl v l zs) (hl : zs.length < 4294967296) (hs : Sep m l) :
    Tells (Am.Call T 72 [v] m) fun r m' => ∃ H, RowO r H 1 (zs.map vZ) ∧ (zs = [] → H = []) ∧ Sep m' (H ++ l) := by
  have he := hv.elems hs
  by_cases h0 : zs = []
  · subst h0
    refine Tells.orc (r := (.list .full 1 [], m)) rfl ?_ ⟨[], RowO.nil, fun _ => rfl, hs⟩
    show cloneO 1 8 [v] m = _
    simp only [cloneO, he, List.map_nil, if_true]
  · refine Tells.orc (r := (.ref m.objs.length 1 0 (zs.map vZ).length, m.push (.row 1 (flat (zs.map vZ))))) rfl ?_ ⟨[(m.objs.length, .row 1 (flat (zs.map vZ)))], .inr ⟨m.objs.length, 1, rfl, rfl, rfl⟩, fun e => absurd e h0, hs.push _⟩
    show cloneO 1 8 [v] m = _
    simp only [cloneO, he]
    rw [if_neg (by simpa using h0), if_pos (by simp only [room, List.length_map]; omega), untag_all vZs_untag]
end Go.Proofs.P17
namespace Go.Proofs.P17
set_option linter.all false
open Go Go.Am
attribute [local irreducible] loadK storeK newK boxK tipK makeMapK buildTK buildK buildSliceK nilK binK unK condK convK eqvK pickK gK gDK vK extractK fieldK lookupK mapUpdateK appendK min2K max2K retK makeSliceK freezeK bytesK loopV blkK stayK sameK rangeK callK aFieldAddr aIndexAddr aIndexAddrA aLen aIndex aSlice

set_option maxHeartbeats 4000000 in
theorem call79 {m : Mem} {l : Heap} {x : AV} {zs : List Int} {z : Int} (hx : ISl x l zs) (hl : zs.length < 4294967296) (hs : Sep m l) : Tells (Am.Call T 79 [x, .int .i64 z] m) fun r m' => (∃ c : Int, r = .int .i64 c ∧ decide (0 ≤ c) = zs.contains z) ∧ Sep m' l := by
  refine Tells.fn (zs.length + 2) rfl F79_ok rfl ?_
  show Tells (S79 (Am.Call T) (zs.length + 2) m x (.int .i64 z)) _
  have h : Sep ⟨m.objs, none⟩ l := hs.objs rfl
  unfold S79 G79
  refine Tells.isLen hx ?_
  refine Tells.loop (fun j vs m => ∃ i : Nat, i + j = zs.length ∧ (zs.take i).contains z = false ∧ vs = [x, .int .i64 z, vI zs.length, vI i] ∧ Sep m l) ?_ (i := zs.length) (by omega) ?_
  · rintro j vs m L2 ⟨i, j1, j2, rfl, h⟩ hL
    unfold S79_2 G79_2
    by_cases hi : i < zs.length
    · obtain ⟨p, hp⟩ : ∃ p, zs[i]? = some p := ⟨_, List.getElem?_eq_getElem hi⟩
      have htk : zs.take (i + 1) = zs.take i ++ [p] := by rw [List.take_add_one, hp]; rfl
      by_cases c1 : z = p
      · refine .lss ?_
        refine .condT (by first | assumption | omega) ?_
        refine .isIdx hx (j := i) (by rfl) hp ?_; intro ad had
        refine .iaLoad h ‹_› ?_
        refine .eql ?_
        refine .condT (by first | assumption | omega) ?_
        refine .blkR ?_
        refine .ret1 (by rfl) ?_
        intro m hobj
        refine ⟨⟨i, rfl, ?_⟩, h.objs hobj⟩
        rw [decide_eq_true (by omega), eq_comm, List.contains_iff_mem]
        subst c1
        exact List.mem_of_getElem? hp
      · refine .lss ?_
        refine .condT (by first | assumption | omega) ?_
        refine .isIdx hx (j := i) (by rfl) hp ?_; intro ad had
        refine .iaLoad h ‹_› ?_
        refine .eql ?_
        refine .condF (by first | assumption | omega) ?_
        refine .add (by rfl) (by omega) ?_
        refine hL (j - 1) _ _ (by omega) ⟨i + 1, by omega, ?_, rfl, h⟩
        rw [htk]
        simp only [List.contains_eq_mem, decide_eq_false_iff_not, List.mem_append, List.mem_singleton, not_or] at j2 ⊢
        exact ⟨j2, c1⟩
    · have hi : i = zs.length := by omega
      subst hi
      rw [List.take_length] at j2
      refine .lss ?_
      refine .condF (by first | assumption | omega) ?_
      refine .blk ?_
      refine .ret1 (by rfl) ?_
      intro m hobj
      exact ⟨⟨-1, rfl, by rw [j2]; rfl⟩, h.objs hobj⟩
  · exact ⟨0, by omega, by simp, rfl, h⟩

theorem call49 {m : Mem} {l : Heap} {x : AV} {zs : List Int} {z : Int} (hx : ISl x l zs) (hl : zs.length < 4294967296) (hs : Sep m l) : Tells (Am.Call T 49 [x, .int .i64 z] m) fun r m' => r = .bool (zs.contains z) ∧ Sep m' l := by
  refine Tells.fn 9 rfl F49_ok rfl ?_
  show Tells (S49 (Am.Call T) 9 m x (.int .i64 z)) _
  have h : Sep ⟨m.objs, none⟩ l := hs.objs rfl
  unfold S49 G49
  refine Tells.call (args := [x, .int .i64 z]) (by simp [hx.untag]; rfl) (call79 hx hl h) ?_
  rintro _ m ⟨⟨c, rfl, hc⟩, h⟩
  refine .geq ?_
  refine .ret1 (by rfl) ?_
  intro m hobj
  exact ⟨by rw [hc], h.objs hobj⟩

theorem call74 {m : Mem} {l : Heap} {z : Int} (hs : Sep m l) : Tells (Am.Call T 74 [.int .i64 z] m) fun r m' => r = .bool (decide (z < 0)) ∧ Sep m' l := by
  refine Tells.fn 9 rfl F74_ok rfl ?_
  show Tells (S74 (Am.Call T) 9 m (.int .i64 z)) _
  have h : Sep ⟨m.objs, none⟩ l := hs.objs rfl
  unfold S74 G74
  refine .lss ?_
  refine .ret1 (by rfl) ?_
  intro m hobj
  exact ⟨rfl, h.objs hobj⟩

set_option maxHeartbeats 4000000 in
theorem call40 {m : Mem} {l : Heap} {x : AV} {zs : List Int} {z : Int} (hx : ISl x l zs) (hl : zs.length < 4294967296) (hs : Sep m l) : Tells (Am.Call T 40 [x, .int .i64 z] m) fun r m' => r = .bool (inR zs z) ∧ Sep m' l := by
  refine Tells.fn (zs.length + 2) rfl F40_ok rfl ?_
  show Tells (S40 (Am.Call T) (zs.length + 2) m x (.int .i64 z)) _
  have h : Sep ⟨m.objs, none⟩ l := hs.objs rfl
  unfold S40 G40
  refine Tells.loop (fun j vs m => ∃ i : Nat, i + j = zs.length ∧ inR (zs.take i) z = false ∧ vs = [x, .int .i64 z, vI i] ∧ Sep m l) ?_ (i := zs.length) (by omega) ?_
  · rintro j vs m L2 ⟨i, j1, j2, rfl, h⟩ hL
    unfold S40_2 G40_2
    by_cases hi : i < zs.length
    · obtain ⟨p, hp⟩ : ∃ p, zs[i]? = some p := ⟨_, List.getElem?_eq_getElem hi⟩
      have htk : zs.take (i + 1) = zs.take i ++ [p] := by rw [List.take_add_one, hp]; rfl
      have no : (decide (p = z) && decide (0 ≤ z)) = false → inR (zs.take (i + 1)) z = false := fun e => by
        unfold inR at j2 ⊢
        rw [htk, List.any_append, j2, List.any_cons, e]; rfl
      by_cases c1 : p = z
      · by_cases c2 : 0 ≤ z
        · refine .isLen hx ?_
          refine .lss ?_
          refine .condT (by first | assumption | omega) ?_
          refine .isIdx hx (j := i) (by rfl) hp ?_; intro ad had
          refine .iaLoad h ‹_› ?_
          refine .eql ?_
          refine .gT (by rfl) (by first | assumption | omega) ?_
          refine .gT (by rfl) (by first | assumption | omega) ?_
          refine .geq ?_
          refine .pickT (by first | assumption | omega) ?_
          refine .condT (by first | assumption | omega) ?_
          refine .blkR ?_
          refine .ret1 (by rfl) ?_
          intro m hobj
          exact ⟨by rw [inR_iff.2 ⟨c1 ▸ List.mem_of_getElem? hp, c2⟩], h.objs hobj⟩
        · refine .isLen hx ?_
          refine .lss ?_
          refine .condT (by first | assumption | omega) ?_
          refine .isIdx hx (j := i) (by rfl) hp ?_; intro ad had
          refine .iaLoad h ‹_› ?_
          refine .eql ?_
          refine .gT (by rfl) (by first | assumption | omega) ?_
          refine .gT (by rfl) (by first | assumption | omega) ?_
          refine .geq ?_
          refine .pickT (by first | assumption | omega) ?_
          refine .condF (by first | assumption | omega) ?_
          refine .add (by rfl) (by omega) ?_
          exact hL (j - 1) _ _ (by omega) ⟨i + 1, by omega, no (by rw [decide_eq_false c2, Bool.and_false]), rfl, h⟩
      · refine .isLen hx ?_
        refine .lss ?_
        refine .condT (by first | assumption | omega) ?_
        refine .isIdx hx (j := i) (by rfl) hp ?_; intro ad had
        refine .iaLoad h ‹_› ?_
        refine .eql ?_
        refine .gFT (by rfl) (by first | assumption | omega) ?_
        refine .gFT (by rfl) (by first | assumption | omega) ?_
        refine .pickF (by first | assumption | omega) ?_
        refine .condff ?_
        refine .add (by rfl) (by omega) ?_
        exact hL (j - 1) _ _ (by omega) ⟨i + 1, by omega, no (by rw [decide_eq_false c1, Bool.false_and]), rfl, h⟩
    · have hi : i = zs.length := by omega
      subst hi
      rw [List.take_length] at j2
      refine .isLen hx ?_
      refine .lss ?_
      refine .condF (by first | assumption | omega) ?_
      refine .blk ?_
      refine .ret1 (by rfl) ?_
      intro m hobj
      exact ⟨by rw [j2], h.objs hobj⟩
  · exact ⟨0, by omega, by simp [inR], rfl, h⟩

set_option maxHeartbeats 4000000 in
theorem call41 {m : Mem} {l : Heap} {x y : AV} {ps : List (Int × Int)} {zs : List Int} {z : Int} (hx : PSl x l ps) (hy : ISl y l zs) (hl : ps.length < 4294967296) (hl2 : zs.length < 4294967296) (hs : Sep m l) : Tells (Am.Call T 41 [x, y, .int .i64 z] m) fun r m' => r = .bool (relR ps zs z) ∧ Sep m' l := by
  refine Tells.fn (zs.length + 2) rfl F41_ok rfl ?_
  show Tells (S41 (Am.Call T) (zs.length + 2) m x y (.int .i64 z)) _
  have h : Sep ⟨m.objs, none⟩ l := hs.objs rfl
  unfold S41 G41
  refine Tells.call (args := [y, .int .i64 z]) (by simp [hy.untag]; rfl) (call40 hy hl2 h) ?_
  rintro _ m ⟨rfl, h⟩
  cases hin : inR zs z with
  | true =>
    refine .condtt ?_
    refine .ret1 (by rfl) ?_
    intro m hobj
    exact ⟨by rw [relR, hin, Bool.true_or], h.objs hobj⟩
  | false =>
    refine Tells.condff ?_
    unfold S41_4 G41_4
    refine Tells.loop (fun j vs m => ∃ i : Nat, i + j = zs.length ∧ ((zs.take i).any fun w => hasR ps w z) = false ∧ vs = [x, y, .int .i64 z, vI i] ∧ Sep m l) ?_ (i := zs.length) (by omega) ?_
    · rintro j vs m L2 ⟨i, j1, j2, rfl, h⟩ hL
      unfold S41_2 G41_2
      by_cases hi : i < zs.length
      · obtain ⟨p, hp⟩ : ∃ p, zs[i]? = some p := ⟨_, List.getElem?_eq_getElem hi⟩
        have htk : zs.take (i + 1) = zs.take i ++ [p] := by rw [List.take_add_one, hp]; rfl
        refine .isLen hy ?_
        refine .lss ?_
        refine .condT (by first | assumption | omega) ?_
        refine .isIdx hy (j := i) (by rfl) hp ?_; intro ad had
        refine .iaLoad h ‹_› ?_
        refine Tells.call (args := [x, .int .i64 p, .int .i64 z]) (by simp [hx.untag]; exact ⟨rfl, rfl⟩) (call31 hx hl h) ?_
        rintro _ m ⟨rfl, h⟩
        cases hq : hasR ps p z with
        | true =>
          refine .condtt ?_
          refine .blkR ?_
          refine .ret1 (by rfl) ?_
          intro m hobj
          refine ⟨?_, h.objs hobj⟩
          have : (zs.any fun w => hasR ps w z) = true := List.any_eq_true.2 ⟨p, List.mem_of_getElem? hp, hq⟩
          rw [relR, this, Bool.or_true]
        | false =>
          refine .condff ?_
          refine .add (by rfl) (by omega) ?_
          refine hL (j - 1) _ _ (by omega) ⟨i + 1, by omega, ?_, rfl, h⟩
          rw [htk, List.any_append, j2, List.any_cons, hq]; rfl
      · have hi : i = zs.length := by omega
        subst hi
        rw [List.take_length] at j2
        refine .isLen hy ?_
        refine .lss ?_
        refine .condF (by first | assumption | omega) ?_
        refine .blk ?_
        refine .ret1 (by rfl) ?_
        intro m hobj
        exact ⟨by rw [relR, hin, j2, Bool.or_self], h.objs hobj⟩
    · exact ⟨0, by omega, by simp, rfl, h⟩

set_option maxHeartbeats 4000000 in
theorem call38 {m : Mem} {l : Heap} {x : AV} {zs : List Int} (hx : ISl x l zs) (hl : zs.length < 4294967296) (hf : RiseP zs) (hs : Sep m l) : Tells (Am.Call T 38 [x] m) fun r m' => r = .bool true ∧ Sep m' l := by
  refine Tells.fn (zs.length + 2) rfl F38_ok rfl ?_
  show Tells (S38 (Am.Call T) (zs.length + 2) m x) _
  have h : Sep ⟨m.objs, none⟩ l := hs.objs rfl
  unfold S38 G38
  refine Tells.loop (fun j vs m => ∃ i : Nat, i + j = zs.length ∧ vs = [x, vI i] ∧ Sep m l) ?_ (i := zs.length) (by omega) ?_
  · rintro j vs m L2 ⟨i, j1, rfl, h⟩ hL
    unfold S38_3 G38_3
    by_cases hi : i < zs.length
    · obtain ⟨p, hp⟩ : ∃ p, zs[i]? = some p := ⟨_, List.getElem?_eq_getElem hi⟩
      obtain ⟨f1, f2⟩ := hf i p hp
      have f1' : ¬ p < 0 := by omega
      by_cases h0 : 0 < i
      · obtain ⟨q, hq⟩ : ∃ q, zs[i - 1]? = some q := ⟨_, List.getElem?_eq_getElem (by omega)⟩
        have ii : ((i : Int) - 1) = ((i - 1 : Nat) : Int) := by omega
        have f3 := f2 q h0 hq
        have n1 : ¬ p ≤ q := by omega
        refine .isLen hx ?_
        refine .lss ?_
        refine .condT (by first | assumption | omega) ?_
        refine .isIdx hx (j := i) (by rfl) hp ?_; intro ad had
        refine .iaLoad h ‹_› ?_
        refine .lss ?_
        refine .gF (by rfl) (by first | assumption | omega) ?_
        refine .gF (by rfl) (by first | assumption | omega) ?_
        refine .gtr ?_
        refine .gF (by rfl) (by first | assumption | omega) ?_
        refine .gT (by rfl) (by first | assumption | omega) ?_
        refine .gT (by rfl) (by first | assumption | omega) ?_
        refine .gT (by rfl) (by first | assumption | omega) ?_
        refine .sub (c := ((i - 1 : Nat) : Int)) ii (by omega) ?_
        refine .gT (by rfl) (by first | assumption | omega) ?_
        refine .isIdx hx (j := i - 1) (by rfl) hq ?_; intro ad had
        refine .gT (by rfl) (by first | assumption | omega) ?_
        refine .iaLoad h ‹_› ?_
        refine .gT (by rfl) (by first | assumption | omega) ?_
        refine .gT (by rfl) (by first | assumption | omega) ?_
        refine .gT (by rfl) (by first | assumption | omega) ?_
        refine .isIdx hx (j := i) (by rfl) hp ?_; intro ad had
        refine .gT (by rfl) (by first | assumption | omega) ?_
        refine .iaLoad h ‹_› ?_
        refine .gT (by rfl) (by first | assumption | omega) ?_
        refine .geq ?_
        refine .gF (by rfl) (by first | assumption | omega) ?_
        refine .pickT (by first | assumption | omega) ?_
        refine .pickF (by first | assumption | omega) ?_
        refine .condF (by first | assumption | omega) ?_
        refine .add (by rfl) (by omega) ?_
        exact hL (j - 1) _ _ (by omega) ⟨i + 1, by omega, rfl, h⟩
      · refine .isLen hx ?_
        refine .lss ?_
        refine .condT (by first | assumption | omega) ?_
        refine .isIdx hx (j := i) (by rfl) hp ?_; intro ad had
        refine .iaLoad h ‹_› ?_
        refine .lss ?_
        refine .gF (by rfl) (by first | assumption | omega) ?_
        refine .gF (by rfl) (by first | assumption | omega) ?_
        refine .gtr ?_
        refine .gF (by rfl) (by first | assumption | omega) ?_
        refine .gFT (by rfl) (by first | assumption | omega) ?_
        refine .gFT (by rfl) (by first | assumption | omega) ?_
        refine .gFT (by rfl) (by first | assumption | omega) ?_
        refine .gFT (by rfl) (by first | assumption | omega) ?_
        refine .gFT (by rfl) (by first | assumption | omega) ?_
        refine .gFT (by rfl) (by first | assumption | omega) ?_
        refine .gFT (by rfl) (by first | assumption | omega) ?_
        refine .gFT (by rfl) (by first | assumption | omega) ?_
        refine .gFT (by rfl) (by first | assumption | omega) ?_
        refine .gFT (by rfl) (by first | assumption | omega) ?_
        refine .gF (by rfl) (by first | assumption | omega) ?_
        refine .pickF (by first | assumption | omega) ?_
        refine .pickF (by first | assumption | omega) ?_
        refine .condff ?_
        refine .add (by rfl) (by omega) ?_
        exact hL (j - 1) _ _ (by omega) ⟨i + 1, by omega, rfl, h⟩
    · refine .isLen hx ?_
      refine .lss ?_
      refine .condF (by first | assumption | omega) ?_
      refine .blk ?_
      refine .ret1 (by rfl) ?_
      intro m hobj
      exact ⟨rfl, h.objs hobj⟩
  · exact ⟨0, by omega, rfl, h⟩
end Go.Proofs.P17
