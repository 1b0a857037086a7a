/- The walk through what the law of growth calls. -/
import Derived.Test.YtdddcofggemnkaaP17V18
namespace Go.Proofs.P17
set_option linter.all false
open Go Go.Am
attribute [local irreducible] loadK storeK newK boxK tipK makeMapK buildTK buildK buildSliceK nilK binK unK condK convK eqvK pickK gK gDK vK extractK fieldK lookupK mapUpdateK appendK min2K max2K retK makeSliceK freezeK bytesK loopV blkK stayK sameK rangeK callK aFieldAddr aIndexAddr aIndexAddrA aLen aIndex aSlice

set_option maxHeartbeats 4000000 in
theorem call43 {m : Mem} {l : Heap} {x y : AV} {ps : List (Int × Int)} (hx : PSl x l ps) (hy : PSl y l ps) (hl : ps.length < 4294967296) (hs : Sep m l) : Tells (Am.Call T 43 [x, y] m) fun r m' => r = .bool true ∧ Sep m' l := by
  refine Tells.fn (ps.length + 2) rfl F43_ok rfl ?_
  show Tells (S43 (Am.Call T) (ps.length + 2) m x y) _
  have h : Sep ⟨m.objs, none⟩ l := hs.objs rfl
  unfold S43 G43
  have ee : ¬ ¬ (ps.length : Int) = ps.length := fun e => e rfl
  refine .psLen hx ?_
  refine .psLen hy ?_
  refine .neq ?_
  refine .condF (by first | assumption | omega) ?_
  unfold S43_5 G43_5
  refine Tells.loop (fun j vs m => ∃ i : Nat, i + j = ps.length ∧ vs = [x, y, vI i] ∧ Sep m l) ?_ (i := ps.length) (by omega) ?_
  · rintro j vs m L2 ⟨i, j1, rfl, h⟩ hL
    unfold S43_3 G43_3
    by_cases hi : i < ps.length
    · obtain ⟨p, hp⟩ : ∃ p, ps[i]? = some p := ⟨_, List.getElem?_eq_getElem hi⟩
      have ep : ¬ ¬ p = p := fun e => e rfl
      refine .psLen hx ?_
      refine .lss ?_
      refine .condT (by first | assumption | omega) ?_
      refine .psIdx hx (j := i) (by rfl) hp ?_; intro ad had
      refine .paLoad h ‹_› ?_
      refine .psIdx hy (j := i) (by rfl) hp ?_; intro ad had
      refine .paLoad h ‹_› ?_
      refine Tells.eqPt ?_
      refine Tells.condF ep ?_
      unfold S43_1 G43_1
      refine .add (by rfl) (by omega) ?_
      exact hL (j - 1) _ _ (by omega) ⟨i + 1, by omega, rfl, h⟩
    · refine .psLen hx ?_
      refine .lss ?_
      refine .condF (by first | assumption | omega) ?_
      refine .blk ?_
      refine .ret1 (by rfl) ?_
      intro m hobj
      exact ⟨rfl, h.objs hobj⟩
  · exact ⟨0, by omega, rfl, h⟩

/-- A row of places of which a part may be cut. -/
def ISu (x : AV) (l : Heap) (zs : List Int) : Prop := (∃ k, x = .list .shared k (zs.map vZ) ∧ (k = 1 ∨ zs = [])) ∨ ∃ id ver cs, x = .ref id ver 0 zs.length ∧ unitOf ver = 1 ∧ Has l id (.row ver cs) ∧ zs.length ≤ cs.length ∧ ∀ (j : Nat) (z : Int), zs[j]? = some z → cs[j]? = some (vZ z)
theorem ISu.isl {x : AV} {l : Heap} {zs : List Int} (h : ISu x l zs) : ISl x l zs := by
  rcases h with h | ⟨id, ver, cs, h1, _, h2, h3, h4⟩
  · exact .inl h
  · exact .inr ⟨id, ver, 0, cs, h1, h2, by omega, fun j z hz => by rw [Nat.zero_add]; exact h4 j z hz⟩
theorem ISu.under {x : AV} {H l : Heap} {zs : List Int} (h : ISu x l zs) : ISu x (H ++ l) zs := by
  rcases h with h | ⟨id, ver, cs, h1, h0, h2, h3⟩
  · exact .inl h
  · refine .inr ⟨id, ver, cs, h1, h0, ?_, h3⟩
    induction H with
    | nil => exact h2
    | cons o H ih => exact .s ih
theorem RowR.isu {x : AV} {H l : Heap} {zs : List Int} (h : RowR x H 1 (zs.map vZ)) (hu : x.untag = x) : ISu x (H ++ l) zs := by
  rcases h with ⟨g, k, rfl, h1, h2⟩ | ⟨id, ver, cs, h1, rfl, rfl, h4, h5, h6⟩
  · have h1 : zs = [] := by simpa using h1
    subst h1
    have hg : g = .shared := by cases g <;> first | rfl | (simp [AV.untag] at hu)
    subst hg
    exact .inl ⟨k, rfl, .inr rfl⟩
  · rw [List.length_map] at *
    have hi := irow_of h4 h5
    exact .inr ⟨id, ver, cs, rfl, h1, .z, hi.1, hi.2⟩

section
variable {m : Mem} {l : Heap} {P : AV → Mem → Prop} {x y : AV} {ps qs : List (Int × Int)} {zs : List Int} {k : KV}
theorem _root_.Go.Am.Tells.isPart (hx : ISu x l zs) {i : Nat} {b c : Int} {z : Int} (hz : zs[i]? = some z) (hb : b = i) (hc : c = (i + 1 : Nat)) (hk : ∀ s, ISl s l [z] → Tells (k s m) P) : Tells (Am.vK (aSlice 1 x (some (.int .i64 b)) (some (.int .i64 c))) m k) P := by
  have hi := (List.getElem?_eq_some_iff.1 hz).1
  subst hb; subst hc
  rcases hx with ⟨kk, rfl, hk1⟩ | ⟨id, ver, cs, rfl, hu, hh, hl, hg⟩
  · have hk1 : kk = 1 := hk1.resolve_right (by intro e; rw [e] at hi; simp at hi)
    subst hk1
    refine Tells.of_eq ?_ (hk (.list .shared 1 ([z].map vZ)) (.inl ⟨1, rfl, .inl rfl⟩))
    simp only [aSlice, bound]
    rw [if_pos ⟨by omega, by rw [List.length_map]; omega⟩]
    simp only [Int.toNat_natCast]
    rw [if_pos ⟨by omega, by omega⟩]
    simp only [Int.toNat_natCast]
    rw [if_pos ⟨.inl trivial, by omega⟩]
    have : ((zs.map vZ).take (i + 1)).drop i = [vZ z] := by
      rw [← List.map_take, ← List.map_drop, List.take_add_one, hz]
      rw [List.drop_append_of_le_length (by rw [List.length_take]; omega), List.drop_of_length_le (by rw [List.length_take]; omega)]
      rfl
    simp only [this, Am.vK, List.map_cons, List.map_nil]
  · refine Tells.of_eq ?_ (hk (.ref id ver (0 + i * 1) 1) (.inr ⟨id, ver, 0 + i * 1, cs, rfl, hh, by simp only [List.length_cons, List.length_nil]; omega, fun j y hy => ?_⟩))
    · simp only [aSlice, bound]
      rw [if_pos ⟨by omega, by omega⟩]
      simp only [Int.toNat_natCast]
      rw [if_pos ⟨by omega, by omega⟩]
      simp only [Int.toNat_natCast]
      rw [if_pos ⟨by omega, .inr hu⟩, if_neg (by omega)]
      simp only [Am.vK, show i + 1 - i = 1 by omega]
    · have hj : j = 0 := by
        have := (List.getElem?_eq_some_iff.1 hy).1
        simp at this
        exact this
      subst hj
      simp only [List.getElem?_cons_zero, Option.some.injEq] at hy
      subst hy
      rw [show 0 + i * 1 + 0 = i by omega]
      exact hg i z hz

theorem _root_.Go.Am.Tells.c43 (hx : PSl x l ps) (hy : PSl y l qs) (he : ps = qs) (hl : ps.length < 4294967296) (hs : Sep m l) (hk : ∀ m', Sep m' l → Tells (k (.bool true) m') P) : Tells (callK (Am.Call T) (.func 43 [] []) false [x, y] m k) P := by
  subst he
  refine Tells.call (args := [x, y]) (by simp [hx.untag, hy.untag]) (call43 hx hy hl hs) ?_
  rintro _ m ⟨rfl, h⟩
  exact hk m h
theorem _root_.Go.Am.Tells.c32 (hx : PSl x l ps) (hl : ps.length < 4294967296) (hs : Sep m l) (hk : ∀ r H m', PSl r (H ++ l) (ofP ps) → Sep m' (H ++ l) → Tells (k r m') P) : Tells (callK (Am.Call T) (.func 32 [] []) false [x] m k) P := by
  refine Tells.call (args := [x]) (by simp [hx.untag]) (call32u hx hl hs) ?_
  rintro r m ⟨hu, H, hr, h⟩
  exact hk r H m (hr.psl' hu) h
theorem _root_.Go.Am.Tells.c33 (hx : PSl x l ps) (hy : PSl y.untag l qs) (hl : ps.length + qs.length < 4294967296) (hs : Sep m l) (hk : ∀ r H m', PSl r (H ++ l) (ofP (ps ++ qs)) → Sep m' (H ++ l) → Tells (k r m') P) : Tells (callK (Am.Call T) (.func 33 [] []) false [x, y] m k) P := by
  refine Tells.call (args := [x, y.untag]) (by simp [hx.untag]) (call33 hx hy hl hs) ?_
  rintro r m ⟨hu, H, hr, h⟩
  exact hk r H m (hr.psl' hu) h
theorem _root_.Go.Am.Tells.c34 (hx : PSl x l ps) (hy : IsZs y zs) (hl : ps.length ≤ 1000000) (hl2 : zs.length ≤ 40) (hs : Sep m l) (hk : ∀ r H m', PSl r (H ++ l) (ofP (ps ++ cloL zs)) → Sep m' (H ++ l) → Tells (k r m') P) : Tells (callK (Am.Call T) (.func 34 [] []) false [x, y] m k) P := by
  refine Tells.call (args := [x, y]) (by simp [hx.untag, ISl.untag (l := l) (.inl hy)]) (call34 hx hy hl hl2 hs) ?_
  rintro r m ⟨hu, H, hr, h⟩
  exact hk r H m (hr.psl' hu) h
theorem _root_.Go.Am.Tells.c35 (hx : PSl x l ps) (hy : ISl y l zs) (hl : ps.length < 4294967296) (hl2 : zs.length < 4294967296) (hs : Sep m l) (hk : ∀ r H m', PSl r (H ++ l) (wioL ps zs) → Sep m' (H ++ l) → Tells (k r m') P) : Tells (callK (Am.Call T) (.func 35 [] []) false [x, y] m k) P := by
  refine Tells.call (args := [x, y]) (by simp [hx.untag, hy.untag]) (call35 hx hy hl hl2 hs) ?_
  rintro r m ⟨hu, H, hr, h⟩
  exact hk r H m (hr.psl' hu) h
theorem _root_.Go.Am.Tells.c36 (hx : PSl x l ps) (hy : ISl y.untag l zs) (hl : ps.length ≤ 1000000) (hl2 : zs.length ≤ 1000000) (hs : Sep m l) (hk : ∀ r H m', ISl r (H ++ l) (relL ps zs) → Sep m' (H ++ l) → Tells (k r m') P) : Tells (callK (Am.Call T) (.func 36 [] []) false [x, y] m k) P := by
  refine Tells.call (args := [x, y.untag]) (by simp [hx.untag]) (call36 hx hy hl hl2 hs) ?_
  rintro r m ⟨hu, H, hr, h⟩
  exact hk r H m (hr.isl hu) h
theorem _root_.Go.Am.Tells.c37 (hy : ISl y l zs) (hl2 : zs.length < 4294967296) (hs : Sep m l) (hk : ∀ r H m', ISu r (H ++ l) (plcL zs) → Sep m' (H ++ l) → Tells (k r m') P) : Tells (callK (Am.Call T) (.func 37 [] []) false [y] m k) P := by
  refine Tells.call (args := [y]) (by simp [hy.untag]) (call37 hy hl2 hs) ?_
  rintro r m ⟨hu, H, hr, h⟩
  exact hk r H m (hr.isu hu) h
end
end Go.Proofs.P17
namespace Go.Proofs.P17
set_option linter.all false
open Go Go.Am
attribute [local irreducible] loadK storeK newK boxK tipK makeMapK buildTK buildK buildSliceK nilK binK unK condK convK eqvK pickK gK gDK vK extractK fieldK lookupK mapUpdateK appendK min2K max2K retK makeSliceK freezeK bytesK loopV blkK stayK sameK rangeK callK aFieldAddr aIndexAddr aIndexAddrA aLen aIndex aSlice

/-- What the law makes, and what is known of it. -/
structure Sg (L : Heap) (ps qs : List (Int × Int)) (zs : List Int) (v w x u c : AV) : Prop where
  hv : PSl v L ps
  hw : PSl w L qs
  hx : IsZs x zs
  hu : PSl u L (ofP (ps ++ qs))
  hc : PSl c L (ofP (ps ++ cloL zs))
  lp : ps.length ≤ 40
  lq : qs.length ≤ 40
  lz : zs.length ≤ 40

theorem rel_len {ps : List (Int × Int)} {zs : List Int} : (relL ps zs).length ≤ zs.length + ps.length * 2 := by
  have a6 := plcL_len (zs := zs)
  have a7 := plcL_len (zs := plcL zs ++ (goods ps).flatMap (relP (plcL zs)))
  have a8 := relP_len (own := plcL zs) (d := goods ps)
  have b8 := goods_len (ps := ps)
  rw [List.length_append] at a7
  unfold relL
  omega
section
variable {L : Heap} {ps qs : List (Int × Int)} {zs ms : List Int} {v w x u c r s t p o : AV}
theorem Sg.under {H : Heap} (a : Sg L ps qs zs v w x u c) : Sg (H ++ L) ps qs zs v w x u c := ⟨a.hv.under, a.hw.under, a.hx, a.hu.under, a.hc.under, a.lp, a.lq, a.lz⟩
theorem Sg.xi (a : Sg L ps qs zs v w x u c) : ISl x L zs := .inl a.hx
theorem clo_len40 (h : zs.length ≤ 40) : (cloL zs).length ≤ 1600 := by
  have a9 : (cloL zs).length ≤ zs.length * zs.length := cloTo_len
  have a10 : zs.length * zs.length ≤ 40 * 40 := Nat.mul_le_mul h h
  omega
theorem Sg.lens (a : Sg L ps qs zs v w x u c) : (ofP (ps ++ qs)).length ≤ 80 ∧ (ofP (ps ++ cloL zs)).length ≤ 1640 ∧ (wioL (ofP (ps ++ cloL zs)) zs).length ≤ 1640 ∧ (plcL zs).length ≤ 40 ∧ (relL ps zs).length ≤ 1000 := by
  have h1 := a.lp
  have h2 := a.lq
  have h3 := a.lz
  have a2 := ofP_len (ps := ps ++ qs)
  have a3 := ofP_len (ps := ps ++ cloL zs)
  have a4 : (wioL (ofP (ps ++ cloL zs)) zs).length ≤ (ofP (ofP (ps ++ cloL zs))).length := List.length_filter_le _ _
  have a5 := ofP_len (ps := ofP (ps ++ cloL zs))
  have a6 := plcL_len (zs := zs)
  have a7 := plcL_len (zs := plcL zs ++ (goods ps).flatMap (relP (plcL zs)))
  have a8 := relP_len (own := plcL zs) (d := goods ps)
  have b8 := goods_len (ps := ps)
  have a9 := clo_len40 h3
  rw [List.length_append] at a2 a3 a7
  unfold relL
  omega

set_option maxHeartbeats 8000000 in
theorem tail9_10 (a : Sg L ps qs zs v w x u c) (ho : PSl o L (wioL (ofP (ps ++ cloL zs)) zs)) {n : Nat} {m0 m : Mem} (h : Sep m L) :
    Tells (S9_10 (Am.Call T) n m0 v x o m) fun r _ => r = .bool true := by
  have h1 := a.lp
  have h3 := a.lz
  obtain ⟨l1, l2, l3, l4, l5⟩ := a.lens
  unfold S9_10 G9_10
  refine Tells.c35 a.hv a.xi (by omega) (by omega) h ?_
  intro q Hq m hq h
  refine Tells.c43 hq ho.under gr_wio (by rw [gr_wio]; omega) h ?_
  intro m h
  refine Tells.gtt ?_
  refine Tells.call (args := []) rfl (call28 h) ?_
  rintro _ m ⟨rfl, h⟩
  refine Tells.picktt ?_
  refine Tells.ret1 rfl ?_
  intro m' hobj
  rfl

set_option maxHeartbeats 8000000 in
theorem tail9_11 (a : Sg L ps qs zs v w x u c) {n : Nat} (hn : 1000 < n) {m0 m : Mem} (h : Sep m L) :
    Tells (S9_11 (Am.Call T) n m0 v x c m) fun r _ => r = .bool true := by
  have h1 := a.lp
  have h3 := a.lz
  obtain ⟨l1, l2, l3, l4, l5⟩ := a.lens
  unfold S9_11 G9_11
  refine Tells.c37 a.xi (by omega) h ?_
  intro p Hp m hp h
  refine Tells.c35 a.hc.under a.under.xi (by omega) (by omega) h ?_
  intro o Ho m ho h
  replace a : Sg (Ho ++ (Hp ++ L)) ps qs zs v w x u c := a.under.under
  replace hp : ISu p (Ho ++ (Hp ++ L)) (plcL zs) := hp.under
  generalize Ho ++ (Hp ++ L) = L at *
  refine Tells.loop (fun j vs m => ∃ i : Nat, i + j = (plcL zs).length ∧ vs = [v, x, c, p, o, vI i] ∧ Sep m L) ?_ (i := (plcL zs).length) (by omega) ?_
  · rintro jo vs m L2 ⟨i, jo1, rfl, h⟩ hL
    unfold S9_9 G9_9
    by_cases hi : i < (plcL zs).length
    · obtain ⟨z, hz⟩ : ∃ z, (plcL zs)[i]? = some z := ⟨_, List.getElem?_eq_getElem hi⟩
      have hzm := List.mem_of_getElem? hz
      have hlr := rel_len (ps := ofP (ps ++ cloL zs)) (zs := [z])
      rw [List.length_singleton] at hlr
      refine .isLen hp.isl ?_
      refine .lss ?_
      refine .condT (by first | assumption | omega) ?_
      refine .add (by rfl) (by omega) ?_
      refine Tells.isPart hp hz rfl (by omega) ?_
      intro q hq
      refine Tells.c36 a.hc (y := q) (by rw [hq.untag]; exact hq) (by omega) (by simp) h ?_
      intro near Hn m hn' h
      have hpn : ISl p (Hn ++ L) (plcL zs) := hp.isl.under
      refine Tells.loop (fun j vs m => ∃ k : Nat, k + j = (plcL zs).length ∧ vs = [v, x, c, p, o, vI i, near, vI k] ∧ Sep m (Hn ++ L)) ?_ (i := (plcL zs).length) (by omega) ?_
      · rintro j vs m L3 ⟨k, j1, rfl, h⟩ hL3
        unfold S9_5 G9_5
        by_cases hk : k < (plcL zs).length
        · obtain ⟨y, hy⟩ : ∃ y, (plcL zs)[k]? = some y := ⟨_, List.getElem?_eq_getElem hk⟩
          have hnear := gr_near (ps := ps) (zs := zs) (y := z) (z := y) hzm (List.mem_of_getElem? hy)
          refine .isLen hpn ?_
          refine .lss ?_
          refine .condT (by first | assumption | omega) ?_
          refine .isIdx hpn (j := k) (by rfl) hy ?_; intro ad had
          refine .iaLoad h ‹_› ?_
          refine Tells.c40 hn' (by omega) hnear h ?_
          intro m h
          refine .not ?_
          refine .condff ?_
          refine .add (by rfl) (by omega) ?_
          exact hL3 (j - 1) _ _ (by omega) ⟨k + 1, by omega, rfl, h⟩
        · have h := h.right
          refine .isLen hpn ?_
          refine .lss ?_
          refine .condF (by first | assumption | omega) ?_
          refine .blk ?_
          refine .add (by rfl) (by omega) ?_
          refine Tells.isPart hp hz rfl (by omega) ?_
          intro q hq
          have hlw := rel_len (ps := wioL (ofP (ps ++ cloL zs)) zs) (zs := [z])
          refine Tells.c36 ho (y := q) (by rw [hq.untag]; exact hq) (by omega) (by simp) h ?_
          intro nr Hr m hr h
          have hal := gr_alone (ps := ofP (ps ++ cloL zs)) hzm
          refine Tells.isLen hr ?_
          rw [hal]
          refine Tells.neq ?_
          refine Tells.condF (fun e => e rfl) ?_
          unfold S9_7 G9_7
          have h := h.right
          refine .add (by rfl) (by omega) ?_
          exact hL (jo - 1) _ _ (by omega) ⟨i + 1, by omega, rfl, h⟩
      · exact ⟨0, by omega, rfl, h⟩
    · refine .isLen hp.isl ?_
      refine .lss ?_
      refine .condF (by first | assumption | omega) ?_
      refine .blk ?_
      exact tail9_10 (n := n) a ho h
  · exact ⟨0, by omega, rfl, h⟩

set_option maxHeartbeats 8000000 in
theorem tail9_12 (a : Sg L ps qs zs v w x u c) (hr : ISl r L (relL ps zs)) (hs : ISl s L (relL (ofP (ps ++ qs)) zs)) (ht : ISl t L (relL ps (zs ++ ms))) (hm : ms.length ≤ 40) {n : Nat} (hn : 2000 < n) {m0 m : Mem} (h : Sep m L) :
    Tells (S9_12 (Am.Call T) n m0 v x c r s t m) fun r _ => r = .bool true := by
  have h1 := a.lp
  have h3 := a.lz
  obtain ⟨l1, l2, l3, l4, l5⟩ := a.lens
  have k1 := rel_len (ps := ofP (ps ++ qs)) (zs := zs)
  have k2 := rel_len (ps := ps) (zs := zs ++ ms)
  rw [List.length_append] at k2
  unfold S9_12 G9_12
  refine Tells.loop (fun j vs m => ∃ i : Nat, i + j = (relL ps zs).length ∧ vs = [v, x, c, r, s, t, vI i] ∧ Sep m L) ?_ (i := (relL ps zs).length) (by omega) ?_
  · rintro j vs m L2 ⟨i, j1, rfl, h⟩ hL
    unfold S9_2 G9_2
    by_cases hi : i < (relL ps zs).length
    · obtain ⟨z, hz⟩ : ∃ z, (relL ps zs)[i]? = some z := ⟨_, List.getElem?_eq_getElem hi⟩
      have g1 := gr_pairs (qs := qs) (List.mem_of_getElem? hz)
      have g2 := gr_places (ms := ms) (List.mem_of_getElem? hz)
      refine .isLen hr ?_
      refine .lss ?_
      refine .condT (by first | assumption | omega) ?_
      refine .isIdx hr (j := i) (by rfl) hz ?_; intro ad had
      refine .iaLoad h ‹_› ?_
      refine .c40 hs (by omega) g1 h ?_
      intro m h
      refine .not ?_
      refine .gff ?_
      refine .gff ?_
      refine .gff ?_
      refine .gff ?_
      refine .isIdx hr (j := i) (by rfl) hz ?_; intro ad had
      refine .gff ?_
      refine .iaLoad h ‹_› ?_
      refine .gff ?_
      refine .c40 ht (by omega) g2 h ?_
      intro m h
      refine .gff ?_
      refine .not ?_
      refine .pickff ?_
      refine .condff ?_
      refine .add (by rfl) (by omega) ?_
      exact hL (j - 1) _ _ (by omega) ⟨i + 1, by omega, rfl, h⟩
    · refine .isLen hr ?_
      refine .lss ?_
      refine .condF (by first | assumption | omega) ?_
      refine .blk ?_
      exact tail9_11 a (by omega) h
  · exact ⟨0, by omega, rfl, h⟩
end

set_option maxHeartbeats 8000000 in
theorem call9 {m : Mem} {v w x y : AV} {ps qs : List (Int × Int)} {zs ms : List Int} (hv : IsPs v ps) (hw : IsPs w qs) (hx : IsZs x zs) (hy : IsZs y ms) (hs : Sep m []) :
    Tells (Am.Call T 9 [v, w, x, y] m) fun x _ => x = .bool true := by
  refine Tells.fn 2001 rfl F9_ok rfl ?_
  show Tells (S9 (Am.Call T) 2001 m v w x y) _
  have h : Sep ⟨m.objs, none⟩ [] := hs.objs rfl
  unfold S9 G9
  have pv : PSl v [] ps := .inl hv
  have pw : PSl w [] qs := .inl hw
  have px : ISl x [] zs := .inl hx
  have py : ISl y [] ms := .inl hy
  refine Tells.psLen pv ?_
  refine Tells.psLen pw ?_
  refine Tells.isLen px ?_
  refine Tells.isLen py ?_
  refine Tells.bs4 ?_
  refine Tells.call (args := [.list .shared 1 [vI ps.length, vI qs.length, vI zs.length, vI ms.length]]) rfl (call27 (zs := [(ps.length : Int), (qs.length : Int), (zs.length : Int), (ms.length : Int)]) ⟨1, rfl, .inl rfl⟩ (by simp) h) ?_
  rintro _ m ⟨rfl, h⟩
  by_cases hg : 40 < (ps.length : Int) ∨ 40 < (qs.length : Int) ∨ 40 < (zs.length : Int) ∨ 40 < (ms.length : Int)
  · have hg' : ([(ps.length : Int), (qs.length : Int), (zs.length : Int), (ms.length : Int)].any fun z => decide (40 < z)) = true := by
      simp only [List.any_cons, List.any_nil, Bool.or_false, Bool.or_eq_true, decide_eq_true_eq]; exact hg
    rw [hg']
    refine Tells.condtt ?_
    refine Tells.call (args := []) rfl (call28 h) ?_
    rintro _ m ⟨rfl, h⟩
    refine Tells.ret1 rfl ?_
    intro m' hobj
    rfl
  have hg' : ([(ps.length : Int), (qs.length : Int), (zs.length : Int), (ms.length : Int)].any fun z => decide (40 < z)) = false := by
    simp only [List.any_cons, List.any_nil, Bool.or_false, Bool.or_eq_false_iff, decide_eq_false_iff_not]; omega
  have lp : ps.length ≤ 40 := by omega
  have lq : qs.length ≤ 40 := by omega
  have lz : zs.length ≤ 40 := by omega
  have lm : ms.length ≤ 40 := by omega
  rw [hg']
  refine Tells.condff ?_
  unfold S9_13 G9_13
  refine Tells.c33 (y := w) pv (by rw [pw.untag]; exact pw) (by omega) h ?_
  intro u Hu m hu h
  refine Tells.c34 pv.under hx (by omega) lz h ?_
  intro c Hc m hc h
  refine Tells.appendON (g := .full) (H := []) (xs := []) (l := Hc ++ (Hu ++ [])) OwnT.full h (.inr rfl) (px.under.under.elems h) (by rw [List.length_map]; simp only [room, List.length_nil]; omega) (by omega) vZs_untag vZs_cells ?_
  intro g1 H1 m how h
  have h' : Sep m (H1 ++ (Hc ++ (Hu ++ []))) := h
  refine Tells.appendON (k' := 1) (by rw [List.length_append]; exact how) h' (.inl rfl) (py.under.under.under.elems h') (by simp only [room, List.length_nil, List.length_append, List.length_map]; omega) (by omega) vZs_untag vZs_cells ?_
  intro g2 H2 m _ h
  have eall : (AV.list g2 1 ([] ++ zs.map vZ ++ ms.map vZ)).untag = .list .shared 1 ((zs ++ ms).map vZ) := by
    rw [List.nil_append, List.map_append]; rfl
  generalize AV.list g2 1 ([] ++ zs.map vZ ++ ms.map vZ) = all at eall ⊢
  have a : Sg (H2 ++ (Hc ++ (Hu ++ []))) ps qs zs v w x u c := ⟨.inl hv, .inl hw, hx, hu.under.under, hc.under, lp, lq, lz⟩
  generalize H2 ++ (Hc ++ (Hu ++ [])) = L0 at h a
  obtain ⟨l1, l2, l3, l4, l5⟩ := a.lens
  refine Tells.c36 a.hv (y := x) (by rw [a.xi.untag]; exact a.xi) (by omega) (by omega) h ?_
  intro r Hr m hr h
  refine Tells.c36 a.hu.under (y := x) (by rw [a.xi.untag]; exact a.under.xi) (by omega) (by omega) h ?_
  intro s Hs m hs h
  have hall : ISl all.untag (Hs ++ (Hr ++ L0)) (zs ++ ms) := by rw [eall]; exact .inl ⟨1, rfl, .inl rfl⟩
  refine Tells.c36 a.hv.under.under hall (by omega) (by rw [List.length_append]; omega) h ?_
  intro t Ht m ht h
  replace a : Sg (Ht ++ (Hs ++ (Hr ++ L0))) ps qs zs v w x u c := a.under.under.under
  replace hr : ISl r (Ht ++ (Hs ++ (Hr ++ L0))) (relL ps zs) := hr.under.under
  replace hs : ISl s (Ht ++ (Hs ++ (Hr ++ L0))) (relL (ofP (ps ++ qs)) zs) := hs.under
  clear hall eall
  generalize Ht ++ (Hs ++ (Hr ++ L0)) = L at *
  refine Tells.c33 (y := v) a.hw (by rw [a.hv.untag]; exact a.hv) (by omega) h ?_
  intro q1 K1 m hq1 h
  refine Tells.c43 a.hu.under hq1 gr_swap.symm (by omega) h ?_
  intro m h
  have h := h.right
  refine .not ?_
  refine .gff ?_
  refine .gff ?_
  refine .gff ?_
  refine Tells.c33 (y := v) a.hu (by rw [a.hv.untag]; exact a.hv) (by omega) h ?_
  intro q2 K2 m hq2 h
  refine .gff ?_
  refine .gff ?_
  refine Tells.c43 hq2 a.hu.under gr_again (by rw [gr_again]; omega) h ?_
  intro m h
  have h := h.right
  refine .gff ?_
  refine .not ?_
  refine .pickff ?_
  refine .gff ?_
  refine .gff ?_
  refine .gff ?_
  refine Tells.c34 a.hc a.hx (by omega) lz h ?_
  intro q3 K3 m hq3 h
  refine .gff ?_
  refine .gff ?_
  refine Tells.c43 hq3 a.hc.under gr_close (by rw [gr_close]; omega) h ?_
  intro m h
  have h := h.right
  refine .gff ?_
  refine .not ?_
  refine .pickff ?_
  refine .gff ?_
  refine .gff ?_
  refine Tells.c32 a.hu (by omega) h ?_
  intro q4 K4 m hq4 h
  refine .gff ?_
  refine .gff ?_
  refine Tells.c43 hq4 a.hu.under gr_of (by rw [gr_of]; omega) h ?_
  intro m h
  have h := h.right
  refine .gff ?_
  refine .not ?_
  refine .pickff ?_
  refine .gff ?_
  refine .gff ?_
  have hlo := ofP_len (ps := ps)
  refine Tells.c32 a.hv (by omega) h ?_
  intro q5 K5 m hq5 h
  refine .gff ?_
  refine Tells.c33 (qs := []) hq5 (.inl ⟨0, rfl, .inr rfl⟩) (by simp only [List.length_nil]; omega) h ?_
  intro q6 K6 m hq6 h
  refine .gff ?_
  refine .gff ?_
  refine Tells.c32 a.hv.under.under (by omega) h ?_
  intro q7 K7 m hq7 h
  refine .gff ?_
  refine Tells.c43 hq6.under hq7 gr_nil (by rw [gr_nil]; omega) h ?_
  intro m h
  have h := h.right.right.right
  refine .gff ?_
  refine .not ?_
  refine .pickff ?_
  refine .condff ?_
  exact tail9_12 a hr hs ht lm (by omega) h
end Go.Proofs.P17
