/- The walk through Compact at pairs; pairs that are made of a list. -/
import Derived.Test.YtdddcofggemnkaaP17V1
namespace Go.Proofs.P17
set_option linter.all false
open Go Go.Am
attribute [local irreducible] loadK storeK newK boxK tipK makeMapK buildTK buildK buildSliceK nilK binK unK condK convK eqvK pickK gK gDK vK extractK fieldK lookupK mapUpdateK appendK min2K max2K retK makeSliceK freezeK bytesK loopV blkK stayK sameK rangeK callK aFieldAddr aIndexAddr aIndexAddrA aLen aIndex aSlice

section
variable {m : Mem} {l l' : Heap} {P : AV → Mem → Prop}
theorem Tells.sliceFrom {n id ver len j : Nat} {kd : IntKind} {i : Int} (hi : i = j) (hj : j < len) (hu : unitOf ver = n) (hn : 0 < n) {k : KV} (hk : Tells (k (.ref id ver (0 + j * n) (len - j)) m) P) : Tells (Am.vK (aSlice n (.ref id ver 0 len) (some (.int kd i)) none) m k) P := by
  refine Tells.of_eq ?_ hk
  subst hi
  simp only [aSlice, bound]
  rw [if_pos ⟨by omega, by omega⟩]
  simp only [Int.toNat_natCast]
  rw [if_pos ⟨hn, .inr hu⟩, if_neg (by omega)]
  simp only [Am.vK]
theorem Tells.sliceEnd {n id ver len : Nat} {kd : IntKind} {i : Int} (hi : i = len) (hu : unitOf ver = n) (hn : 0 < n) {k : KV} (hk : Tells (k (.list .shared n []) m) P) : Tells (Am.vK (aSlice n (.ref id ver 0 len) (some (.int kd i)) none) m k) P := by
  refine Tells.of_eq ?_ hk
  subst hi
  simp only [aSlice, bound]
  rw [if_pos ⟨by omega, by omega⟩]
  simp only [Int.toNat_natCast]
  rw [if_pos ⟨hn, .inr hu⟩]
  simp only [if_true, Am.vK]
theorem Tells.sliceTo {n id ver len j : Nat} {kd : IntKind} {i : Int} (hi : i = j) (hj : j ≤ len) (h0 : 0 < j) (hu : unitOf ver = n) (hn : 0 < n) {k : KV} (hk : Tells (k (.ref id ver 0 j) m) P) : Tells (Am.vK (aSlice n (.ref id ver 0 len) none (some (.int kd i))) m k) P := by
  refine Tells.of_eq ?_ hk
  subst hi
  simp only [aSlice, bound]
  rw [if_pos ⟨by omega, by omega⟩]
  simp only [Int.toNat_natCast]
  rw [if_pos ⟨hn, .inr hu⟩, if_neg (by omega)]
  simp only [Nat.zero_mul, Nat.add_zero, Nat.sub_zero, Am.vK]
end

theorem prow_of {cs : List AV} {es : List (Int × Int)} (h : cs.take (es.length * 2) = flat (es.map pV)) (hl : es.length * 2 ≤ cs.length) : PRow cs es := by
  refine ⟨hl, fun j p hp => ?_⟩
  have hj : j < es.length := (List.getElem?_eq_some_iff.1 hp).1
  obtain ⟨g1, g2⟩ := flatP_get hp
  have e : ∀ t, t < es.length * 2 → cs[t]? = ((flatP es).map (AV.int .i64))[t]? := fun t ht => by
    rw [← flat_pV, ← h, List.getElem?_take, if_pos ht]
  rw [e _ (by omega), e _ (by omega), List.getElem?_map, List.getElem?_map, g1, g2]
  exact ⟨rfl, rfl⟩
theorem prow_take {cs : List AV} {es : List (Int × Int)} (h : PRow cs es) : cs.take (es.length * 2) = flat (es.map pV) := by
  rw [flat_pV]
  apply List.ext_getElem?
  intro t
  by_cases ht : t < es.length * 2
  · rw [List.getElem?_take, if_pos ht, List.getElem?_map]
    have hj : t / 2 < es.length := by omega
    obtain ⟨g1, g2⟩ := flatP_get (List.getElem?_eq_getElem hj)
    obtain ⟨k1, k2⟩ := h.2 _ _ (List.getElem?_eq_getElem hj)
    rcases (show t = t / 2 * 2 ∨ t = t / 2 * 2 + 1 by omega) with e | e
    · rw [← e] at g1 k1; rw [g1, k1]; rfl
    · rw [← e] at g2 k2; rw [g2, k2]; rfl
  · rw [List.getElem?_eq_none (by rw [List.length_take]; omega), List.getElem?_eq_none (by rw [List.length_map, flatP_len]; omega)]
theorem prow_set {cs : List AV} {es : List (Int × Int)} (h : PRow cs es) {k : Nat} (hk : k < es.length) (p : Int × Int) : PRow (setCells cs (k * 2) [vZ p.1, vZ p.2]) (es.set k p) := by
  have hl := h.1
  have hsp := spliced_get (l := cs) (xs := [vZ p.1, vZ p.2]) (off := k * 2) (by simp; omega)
  have hlen : (setCells cs (k * 2) [vZ p.1, vZ p.2]).length = cs.length := by
    simp only [setCells, List.length_append, List.length_take, List.length_cons, List.length_nil, List.length_drop]; omega
  refine ⟨by rw [List.length_set, hlen]; exact hl, fun j q hq => ?_⟩
  have hj : j < es.length := by have := (List.getElem?_eq_some_iff.1 hq).1; simpa using this
  unfold setCells
  rw [hsp, hsp]
  simp only [List.length_cons, List.length_nil]
  by_cases e : j = k
  · subst e
    rw [List.getElem?_set_self hj] at hq
    cases hq
    rw [if_pos (by omega), if_pos (by omega)]
    have e1 : j * 2 - j * 2 = 0 := by omega
    have e2 : j * 2 + 1 - j * 2 = 1 := by omega
    rw [e1, e2]
    exact ⟨rfl, rfl⟩
  · rw [List.getElem?_set_ne (fun h => e h.symm)] at hq
    rw [if_neg (by omega), if_neg (by omega)]
    exact h.2 j q hq
theorem prow_pre {cs : List AV} {es : List (Int × Int)} (h : PRow cs es) {r : List (Int × Int)} (hr : r <+: es) : PRow cs r := by
  refine ⟨Nat.le_trans (Nat.mul_le_mul_right _ hr.length_le) h.1, fun j p hp => h.2 j p ?_⟩
  obtain ⟨t, rfl⟩ := hr
  rw [List.getElem?_append_left (List.getElem?_eq_some_iff.1 hp).1]
  exact hp
theorem prow_zero {cs : List AV} {r : List (Int × Int)} (h : PRow cs r) {n : Nat} (hn : r.length * 2 + n ≤ cs.length) {zs : List AV} (hz : zs.length = n) : PRow (setCells cs (r.length * 2) zs) r := by
  have hsp := spliced_get (l := cs) (xs := zs) (off := r.length * 2) (by omega)
  have hlen : (setCells cs (r.length * 2) zs).length = cs.length := by
    simp only [setCells, List.length_append, List.length_take, List.length_drop]; omega
  refine ⟨by rw [hlen]; exact h.1, fun j q hq => ?_⟩
  have hj := (List.getElem?_eq_some_iff.1 hq).1
  unfold setCells
  rw [hsp, hsp, if_neg (by omega), if_neg (by omega)]
  exact h.2 j q hq

theorem eqP {p q : Int × Int} : AV.eqv ⟨[.i, .i], true⟩ (pV p) (pV q) = some (decide (p = q)) := by
  have e : decide (p = q) = (decide (p.1 = q.1) && decide (p.2 = q.2)) := by
    rw [← Bool.decide_and, decide_eq_decide]
    exact ⟨fun h => by subst h; exact ⟨rfl, rfl⟩, fun ⟨h1, h2⟩ => Prod.ext h1 h2⟩
  rw [e]
  have e1 : ∀ a b : Int, (a == b) = decide (a = b) := fun a b => rfl
  simp [AV.eqv, AV.isAgg, AV.eqCells, AV.eq1, AV.cells, e1]

theorem compTo_pos {l : List (Int × Int)} (h : 0 < l.length) : ∀ {i : Nat}, 0 < i → 0 < (compTo l i).length := by
  intro i
  induction i with
  | zero => intro h; omega
  | succ i ih =>
    intro _
    simp only [compTo, List.length_append]
    by_cases h0 : i = 0
    · subst h0
      rw [List.getElem?_eq_getElem h]
      simp
    · have := ih (by omega)
      omega
/-- As long as none is twice, all stay. -/
theorem compTo_all {l : List (Int × Int)} : ∀ {i : Nat}, i ≤ l.length → (∀ j, 0 < j → j < i → l[j - 1]? ≠ l[j]?) → compTo l i = l.take i := by
  intro i
  induction i with
  | zero => intro _ _; simp [compTo]
  | succ i ih =>
    intro hi h
    have hg : l[i]? = some l[i] := List.getElem?_eq_getElem (by omega)
    rw [List.take_add_one, hg]
    simp only [compTo, hg]
    rw [ih (by omega) fun j h1 h2 => h j h1 (by omega), if_neg]
    · rfl
    · rintro ⟨h1, h2⟩
      exact h i (by omega) (by omega) (by rw [h2, hg])

/-- How the inner loop stands. -/
structure InC (l : List (Int × Int)) (i k : Nat) (es : List (Int × Int)) : Prop where
  len : es.length = l.length
  num : k = (compTo l i).length
  lt : k < i
  pre : es.take k = compTo l i
  rest : ∀ j, k ≤ j → es[j]? = l[j]?

theorem InC.skip {l : List (Int × Int)} {i k : Nat} {es : List (Int × Int)} (h : InC l i k es) {x : Int × Int} (hx : l[i]? = some x) (hd : l[i - 1]? = some x) : InC l (i + 1) k es := by
  have hi := h.lt
  have e : compTo l (i + 1) = compTo l i := by simp only [compTo, hx]; rw [if_pos ⟨by omega, hd⟩, List.append_nil]
  exact ⟨h.len, by rw [e]; exact h.num, by omega, by rw [e]; exact h.pre, h.rest⟩
theorem InC.put {l : List (Int × Int)} {i k : Nat} {es : List (Int × Int)} (h : InC l i k es) {x : Int × Int} (hx : l[i]? = some x) (hd : l[i - 1]? ≠ some x) : InC l (i + 1) (k + 1) (es.set k x) := by
  have hi := h.lt
  have hil := (List.getElem?_eq_some_iff.1 hx).1
  have hlen := h.len
  have e : compTo l (i + 1) = compTo l i ++ [x] := by simp only [compTo, hx]; rw [if_neg (fun c => hd c.2)]
  refine ⟨by rw [List.length_set]; exact hlen, by rw [e, List.length_append, ← h.num]; rfl, by omega, ?_, fun j hj => ?_⟩
  · rw [e, List.take_add_one, List.getElem?_set_self (by omega), List.take_set_of_le (Nat.le_refl _), h.pre]
    rfl
  · rw [List.getElem?_set_ne (by omega)]
    exact h.rest j (by omega)

section
variable {m : Mem} {P : AV → Mem → Prop}
theorem Tells.eqPf {p q : Int × Int} {k : AV → Rho} (hk : Tells (k (.bool (decide (p = q)))) P) : Tells (eqvK ⟨[.i, .i], true⟩ false (.agg [.int .i64 p.1, .int .i64 p.2]) (.agg [.int .i64 q.1, .int .i64 q.2]) k) P := Tells.eqv eqP hk
theorem Tells.eqPt {p q : Int × Int} {k : AV → Rho} (hk : Tells (k (.bool (decide (¬ p = q)))) P) : Tells (eqvK ⟨[.i, .i], true⟩ true (.agg [.int .i64 p.1, .int .i64 p.2]) (.agg [.int .i64 q.1, .int .i64 q.2]) k) P := by
  refine Tells.eqv eqP ?_
  rw [decide_not] at hk
  exact hk
theorem Tells.loadP {l : Heap} (h : Sep m l) {id ver off j : Nat} {cs : List AV} {es : List (Int × Int)} {p : Int × Int} (hh : Has l id (.row ver cs)) (hc : PRow cs es) (hp : es[j]? = some p) (ho : off = j * 2) {k : KV} (hk : Tells (k (.agg [.int .i64 p.1, .int .i64 p.2]) m) P) : Tells (loadK (some 2) (.ptr id ver off) m k) P := by
  subst ho
  obtain ⟨p1, p2⟩ := prow_pair hc hp
  exact Tells.loadN h hh p1 p2 hk
theorem Tells.storeP {l : Heap} {id ver off j : Nat} {cs : List AV} {es : List (Int × Int)} {p : Int × Int} (h : Sep m ((id, .row ver cs) :: l)) (hc : PRow cs es) (hj : j < es.length) (ho : off = j * 2) {k : KV} (hk : ∀ m' cs', PRow cs' (es.set j p) → Sep m' ((id, .row ver cs') :: l) → Tells (k (.tuple []) m') P) : Tells (storeK 2 (.ptr id ver off) (.agg [.int .i64 p.1, .int .i64 p.2]) m k) P := by
  subst ho
  have := hc.1
  exact Tells.store (cs := cs) (off := j * 2) (n := 2) h .z rfl (by omega) rfl rfl (fun m' h' => hk m' _ (prow_set hc hj p) h')
end

/-- What Compact leaves. -/
theorem compact_end {m : Mem} {fr : Heap} {id ver : Nat} {cs : List AV} {l es : List (Int × Int)} {k : Nat} (hu : unitOf ver = 2) (h : InC l l.length k es) (h0 : 0 < k) (hc : PRow cs es) (hlen : l.length < 4294967296)
    {kk : KV} {P : AV → Mem → Prop} (hs : Sep m ((id, .row ver cs) :: fr)) (hP : ∀ m' cs', PRow cs' (comp l) → Sep m' ((id, .row ver cs') :: fr) → Tells (kk (.ref id ver 0 (comp l).length) m') P) :
    Tells (Am.vK (aSlice 2 (.ref id ver 0 l.length) (some (vI k)) none) m fun a0 m1 => clearK 2 [(.int .i64 0), (.int .i64 0)] a0 m1 fun a2 m3 => Am.vK (aSlice 2 (.ref id ver 0 l.length) none (some (vI k))) m3 kk) P := by
  have hk : k = (comp l).length := h.num
  have hlt := h.lt
  have hel := h.len
  have hpr : comp l <+: es := by
    have := h.pre
    rw [show comp l = compTo l l.length from rfl, ← this]
    exact List.take_prefix _ _
  have hr := prow_pre hc hpr
  have hcl := hc.1
  refine Tells.sliceFrom (j := k) rfl hlt hu (by omega) ?_
  refine Tells.clearR (cs := cs) (off := 0 + k * 2) (len := l.length - k) (n := 2) hs .z (by omega) rfl (by omega) (by omega) ?_
  intro m' hs'
  refine Tells.sliceTo (j := k) rfl (by omega) h0 hu (by omega) ?_
  rw [hk] at hs' ⊢
  refine hP m' _ ?_ hs'
  rw [Nat.zero_add]
  have hrep : (rep [AV.int .i64 0, AV.int .i64 0] (l.length - (comp l).length)).length = (l.length - (comp l).length) * 2 := by
    generalize l.length - (comp l).length = n
    induction n with
    | zero => rfl
    | succ n ih => simp only [rep, List.length_append, ih, List.length_cons, List.length_nil]; omega
  exact prow_zero hr (n := (l.length - (comp l).length) * 2) (by omega) hrep

set_option maxHeartbeats 8000000 in
theorem call67 {m : Mem} {fr H : Heap} {x : AV} {l : List (Int × Int)} (hx : RowR x H 2 (l.map pV)) (hlen : l.length < 4294967296) (hs : Sep m (H ++ fr)) :
    Tells (Am.Call T 67 [x] m) fun r m' => ∃ H', RowR r H' 2 ((comp l).map pV) ∧ Sep m' (H' ++ fr) := by
  rcases hx with ⟨g, k, rfl, h1, rfl⟩ | ⟨id, ver, cs, hu, rfl, rfl, h3, h4, h5⟩
  · have hl0 : l = [] := by simpa using h1
    subst hl0
    refine Tells.fn 9 rfl F67_ok rfl ?_
    show Tells (S67 (Am.Call T) 9 m (.list g k [])) _
    have h : Sep ⟨m.objs, none⟩ ([] ++ fr) := hs.objs rfl
    unfold S67 G67
    refine .lenL ?_
    refine .lss ?_
    refine .condtt ?_
    refine Tells.ret rfl rfl ?_
    intro m hobj
    exact ⟨[], .inl ⟨_, _, rfl, rfl, rfl⟩, h.objs hobj⟩
  · rw [List.length_map] at h3 h4 h5 ⊢
    have hc := prow_of h3 h4
    refine Tells.fn (l.length + 9) rfl F67_ok rfl ?_
    show Tells (S67 (Am.Call T) (l.length + 9) m (.ref id ver 0 l.length)) _
    have h : Sep ⟨m.objs, none⟩ ((id, .row ver cs) :: fr) := hs.objs rfl
    unfold S67 G67
    by_cases h2 : l.length < 2
    · refine .lenR ?_
      refine .lss ?_
      refine .condT (by first | assumption | omega) ?_
      refine .ret1 (by rfl) ?_
      intro m hobj
      have hcm : comp l = l := by
        unfold comp
        rw [compTo_all (Nat.le_refl _) fun j h1 h2 => by omega, List.take_length]
      rw [hcm]
      exact ⟨[(id, .row ver cs)], .inr ⟨id, ver, cs, hu, by rw [List.length_map], rfl, by rw [List.length_map]; exact h3, by rw [List.length_map]; exact h4, by rw [List.length_map]; exact h5⟩, h.objs hobj⟩
    · refine .lenR ?_
      refine .lss ?_
      refine .condF (by first | assumption | omega) ?_
      unfold S67_10 G67_10
      refine Tells.loop (fun j vs m => ∃ i : Nat, i + j = l.length ∧ 0 < i ∧ (∀ q, 0 < q → q < i → l[q - 1]? ≠ l[q]?) ∧ vs = [.ref id ver 0 l.length, vI i] ∧ Sep m ((id, .row ver cs) :: fr)) ?_ (i := l.length - 1) (by omega) ?_
      · rintro j vs m L2 ⟨i, j1, j2, j3, rfl, h⟩ hL
        unfold S67_8 G67_8
        by_cases hi : i < l.length
        · obtain ⟨p, hp⟩ : ∃ p, l[i]? = some p := ⟨_, List.getElem?_eq_getElem hi⟩
          obtain ⟨q, hq⟩ : ∃ q, l[i - 1]? = some q := ⟨_, List.getElem?_eq_getElem (by omega)⟩
          refine .lenR ?_
          refine .lss ?_
          refine .condT (by first | assumption | omega) ?_
          unfold S67_7 G67_7
          have ii : ((i : Int) - 1) = ((i - 1 : Nat) : Int) := by omega
          refine Tells.indexR (j := i) rfl hi ?_
          refine Tells.loadP h .z hc hp (by omega) ?_
          refine Tells.sub (c := ((i - 1 : Nat) : Int)) ii (by omega) ?_
          refine Tells.indexR (j := i - 1) rfl (by omega) ?_
          refine Tells.loadP h .z hc hq (by omega) ?_
          refine Tells.eqPf ?_
          by_cases hpq : p = q
          · refine Tells.condT hpq ?_
            refine Tells.sliceFrom (j := i) rfl hi hu (by omega) ?_
            have hct : compTo l (i + 1) = l.take i := by
              simp only [compTo, hp]
              rw [if_pos ⟨by omega, by rw [hq, hpq]⟩, List.append_nil, compTo_all (by omega) j3]
            have hin0 : InC l (i + 1) i l := ⟨rfl, by rw [hct, List.length_take]; omega, by omega, hct.symm, fun _ _ => rfl⟩
            refine Tells.loop (fun j vs m => ∃ (q k : Nat) (es : List (Int × Int)) (cs' : List AV), q + j = l.length - i ∧ 0 < q ∧ 0 < k ∧ InC l (i + q) k es ∧ PRow cs' es ∧ vs = [.ref id ver 0 l.length, vI k, .ref id ver (0 + i * 2) (l.length - i), vI q] ∧ Sep m ((id, .row ver cs') :: fr)) ?_ (i := l.length - i - 1) (by omega) ?_
            · rintro j vs m L3 ⟨q, k, es, cs', t1, t2, t0, t3, t4, rfl, h⟩ hL3
              have hkl := t3.lt
              have hel := t3.len
              unfold S67_4 G67_4
              by_cases hq2 : q < l.length - i
              · obtain ⟨a, ha⟩ : ∃ a, l[i + q]? = some a := ⟨_, List.getElem?_eq_getElem (by omega)⟩
                obtain ⟨b, hb⟩ : ∃ b, l[i + q - 1]? = some b := ⟨_, List.getElem?_eq_getElem (by omega)⟩
                have ha' := (t3.rest (i + q) (by omega)).trans ha
                have hb' := (t3.rest (i + q - 1) (by omega)).trans hb
                have qq : ((q : Int) - 1) = ((q - 1 : Nat) : Int) := by omega
                refine .lenR ?_
                refine .lss ?_
                refine .condT (by first | assumption | omega) ?_
                unfold S67_3 G67_3
                refine Tells.indexR (j := q) rfl hq2 ?_
                refine Tells.loadP h .z t4 ha' (by omega) ?_
                refine Tells.sub (c := ((q - 1 : Nat) : Int)) qq (by omega) ?_
                refine Tells.indexR (j := q - 1) rfl (by omega) ?_
                refine Tells.loadP h .z t4 hb' (by omega) ?_
                refine Tells.eqPt ?_
                by_cases hab : a = b
                · refine Tells.condF (fun c => c hab) ?_
                  unfold S67_2 G67_2
                  refine .add (by rfl) (by omega) ?_
                  exact hL3 (j - 1) _ _ (by omega) ⟨q + 1, k, es, cs', by omega, by omega, t0, t3.skip ha (by rw [hb, hab]), t4, rfl, h⟩
                · refine Tells.condT hab ?_
                  refine Tells.indexR (j := q) rfl hq2 ?_
                  refine Tells.loadP h .z t4 ha' (by omega) ?_
                  refine Tells.indexR (j := k) rfl (by omega) ?_
                  refine Tells.storeP h t4 (j := k) (by omega) (by omega) ?_
                  intro m cs2 t4 h
                  refine .add (by rfl) (by omega) ?_
                  refine .add (by rfl) (by omega) ?_
                  exact hL3 (j - 1) _ _ (by omega) ⟨q + 1, k + 1, es.set k a, cs2, by omega, by omega, by omega, t3.put ha (by rw [hb]; intro e; exact hab (Option.some.inj e).symm), t4, rfl, h⟩
              · have hqe : i + q = l.length := by omega
                refine .lenR ?_
                refine .lss ?_
                refine .condF (by first | assumption | omega) ?_
                refine .blk ?_
                rw [hqe] at t3
                unfold S67_5 G67_5
                refine compact_end hu t3 t0 t4 hlen h ?_
                intro m' cs2 hr h
                refine .blkR ?_
                refine .ret1 (by rfl) ?_
                intro m hobj
                have hcpos : 0 < (comp l).length := compTo_pos (by omega) (by omega)
                exact ⟨[(id, .row ver cs2)], .inr ⟨id, ver, cs2, hu, by rw [List.length_map], rfl, by rw [List.length_map]; exact prow_take hr, by rw [List.length_map]; exact hr.1, by rw [List.length_map]; exact hcpos⟩, h.objs hobj⟩
            · exact ⟨1, i, l, cs, by omega, by omega, j2, hin0, hc, rfl, h⟩
          · refine Tells.condF hpq ?_
            unfold S67_6 G67_6
            refine .add (by rfl) (by omega) ?_
            refine hL (j - 1) _ _ (by omega) ⟨i + 1, by omega, by omega, fun q' h1 h2 => ?_, rfl, h⟩
            by_cases e : q' = i
            · subst e
              rw [hp, hq]
              intro e
              exact hpq (Option.some.inj e).symm
            · exact j3 q' h1 (by omega)
        · have hi : i = l.length := by omega
          refine .lenR ?_
          refine .lss ?_
          refine .condF (by first | assumption | omega) ?_
          refine .blk ?_
          refine .ret1 (by rfl) ?_
          intro m hobj
          have hcm : comp l = l := by
            unfold comp
            rw [compTo_all (Nat.le_refl _) fun j h1 h2 => j3 j h1 (by omega), List.take_length]
          rw [hcm]
          exact ⟨[(id, .row ver cs)], .inr ⟨id, ver, cs, hu, by rw [List.length_map], rfl, by rw [List.length_map]; exact h3, by rw [List.length_map]; exact h4, by rw [List.length_map]; exact h5⟩, h.objs hobj⟩
      · exact ⟨1, by omega, by omega, fun q h1 h2 => by omega, rfl, h⟩

/-- What Of makes. -/
def ofP (ps : List (Int × Int)) : List (Int × Int) := comp (sortP (goods ps))

theorem call32u {m : Mem} {fr : Heap} {v : AV} {ps : List (Int × Int)} (hv : PSl v fr ps) (hlen : ps.length < 4294967296) (hs : Sep m fr) :
    Tells (Am.Call T 32 [v] m) fun x m' => x.untag = x ∧ ∃ H, RowR x H 2 ((ofP ps).map pV) ∧ Sep m' (H ++ fr) := by
  have hgl := goods_len (ps := ps)
  have hsl : (sortP (goods ps)).length = (goods ps).length := List.length_mergeSort _
  refine Tells.fn 9 rfl F32_ok rfl ?_
  show Tells (S32 (Am.Call T) 9 m v) _
  have h : Sep ⟨m.objs, none⟩ fr := hs.objs rfl
  unfold S32 G32
  have hvu : v.untag = v := hv.untag
  refine Tells.call (args := [v]) (by simp [hvu]) (call61 hv h) ?_
  rintro _ m ⟨c, rfl, h⟩
  refine Tells.call rfl (call62 hv hlen h) ?_
  rintro x m ⟨H, hx, h⟩
  have hxu : x.untag = x ∨ ∃ g k, x = .list g k [] := by
    rcases hx with ⟨g, k, rfl, _⟩ | ⟨id, ver, cs, _, rfl, _⟩
    · exact .inr ⟨g, k, rfl⟩
    · exact .inl rfl
  have hxr : RowR x.untag H 2 ((goods ps).map pV) := by
    rcases hx with ⟨g, k, rfl, h1, h2⟩ | ⟨id, ver, cs, h1, rfl, h3⟩
    · exact .inl ⟨.shared, k, rfl, h1, h2⟩
    · exact .inr ⟨id, ver, cs, h1, rfl, h3⟩
  refine Tells.call (args := [x.untag, .func 64 [] []]) rfl (call63 hxr (by omega) h) ?_
  rintro _ m ⟨rfl, H', hx', h⟩
  refine Tells.call (args := [x.untag]) (by simp) (call67 hx' (by omega) h) ?_
  rintro r m ⟨H2, hr, h⟩
  refine Tells.ret rfl rfl ?_
  intro m' hobj
  refine ⟨by rcases hr with ⟨g, k, rfl, _⟩ | ⟨id, ver, cs, _, rfl, _⟩ <;> rfl, H2, ?_, h.objs hobj⟩
  show RowR r.untag H2 2 _
  rcases hr with ⟨g, k, rfl, h1, h2⟩ | ⟨id, ver, cs, h1, rfl, h3⟩
  · exact .inl ⟨.shared, k, rfl, h1, h2⟩
  · exact .inr ⟨id, ver, cs, h1, rfl, h3⟩
theorem call32 {m : Mem} {fr : Heap} {v : AV} {ps : List (Int × Int)} (hv : PSl v fr ps) (hlen : ps.length < 4294967296) (hs : Sep m fr) :
    Tells (Am.Call T 32 [v] m) fun x m' => ∃ H, RowR x H 2 ((ofP ps).map pV) ∧ Sep m' (H ++ fr) := (call32u hv hlen hs).imp fun _ _ h => h.2
end Go.Proofs.P17
