/- The walk through the renaming of pairs. -/
import Derived.Test.YtdddcofggemnkaaP17V5
import Derived.Test.YtdddcofggemnkaaAmSort
import Derived.Test.YtdddcofggemnkaaAmV
namespace Go.Proofs.P17
set_option linter.all false
open Go Go.Am
attribute [local irreducible] loadK storeK newK boxK tipK makeMapK buildTK buildK buildSliceK nilK binK unK condK convK eqvK pickK gK gDK vK extractK fieldK lookupK mapUpdateK appendK min2K max2K retK makeSliceK freezeK bytesK loopV blkK stayK sameK rangeK callK aFieldAddr aIndexAddr aIndexAddrA aLen aIndex aSlice

theorem ev29_0 {n : Nat} {kn : KN} {kx : KX} {y0 y1 y2 y3 : AV} {m : Mem} : evK (Am.Call T) n b29_0 [(9, y0), (3, y1), (4, y2), (5, y3)] m kn kx = S29_0 (Am.Call T) n kn kx y0 y1 y2 y3 m :=
  Eq.mp (by kernel_rfl) (show d29_0 (Am.Call T) n kn kx y0 y1 y2 y3 m = S29_0 (Am.Call T) n kn kx y0 y1 y2 y3 m by rw [l29_0])
theorem ev29_2 {n : Nat} {kn : KN} {kx : KX} {y0 y1 y2 : AV} {m : Mem} : evK (Am.Call T) n b29_2 [(3, y0), (5, y1), (6, y2)] m kn kx = S29_2 (Am.Call T) n kn kx y0 y1 y2 m :=
  Eq.mp (by kernel_rfl) (show d29_2 (Am.Call T) n kn kx y0 y1 y2 m = S29_2 (Am.Call T) n kn kx y0 y1 y2 m by rw [l29_2])

def renP (zs : List Int) (p : Int × Int) : List (Int × Int) := if p.2 < zs.length then [((zs[p.1.toNat]?).getD 0, (zs[p.2.toNat]?).getD 0)] else []
def renL (zs : List Int) (ps : List (Int × Int)) : List (Int × Int) := (goods ps).flatMap (renP zs)

theorem goods_mem {ps : List (Int × Int)} {p : Int × Int} : p ∈ goods ps ↔ ∃ q ∈ ps, p = (min q.1 q.2, max q.1 q.2) ∧ 0 ≤ p.1 ∧ p.1 < p.2 := by
  unfold goods
  rw [List.mem_filter, List.mem_map]
  constructor
  · rintro ⟨⟨q, hq, rfl⟩, h⟩
    refine ⟨q, hq, rfl, ?_⟩
    have h := Bool.and_eq_true_iff.1 h
    have h1 := of_decide_eq_true h.1
    have h2 := of_decide_eq_true h.2
    refine ⟨h1, ?_⟩
    show min q.1 q.2 < max q.1 q.2
    replace h2 : min q.1 q.2 ≠ max q.1 q.2 := h2
    omega
  · rintro ⟨q, hq, rfl, h1, h2⟩
    refine ⟨⟨q, hq, rfl⟩, ?_⟩
    exact Bool.and_eq_true_iff.2 ⟨decide_eq_true h1, decide_eq_true (Int.ne_of_lt h2)⟩
theorem renL_len {zs : List Int} {d : List (Int × Int)} : (d.flatMap (renP zs)).length ≤ d.length := by
  induction d with
  | nil => exact Nat.le_refl _
  | cons p d ih =>
    simp only [List.flatMap_cons, List.length_append, List.length_cons]
    have : (renP zs p).length ≤ 1 := by unfold renP; split <;> simp
    omega

/-- A list that grows. -/
def OwnP (v : AV) (H : Heap) (es : List (Int × Int)) : Prop := ∃ g k, v = .list g k (es.map pV) ∧ OwnT g H es.length ∧ (k = 2 ∨ es = [])

set_option maxHeartbeats 8000000 in
theorem call29 {m : Mem} {fr : Heap} {v w : AV} {ps : List (Int × Int)} {zs : List Int} (hv : IsPs v ps) (hw : IsZs w zs) (hlen : ps.length < 4294967296) (hs : Sep m fr) :
    Tells (Am.Call T 29 [v, w] m) fun x m' => x.untag = x ∧ ∃ H, RowR x H 2 ((ofP (renL zs ps)).map pV) ∧ Sep m' (H ++ fr) := by
  have hvu : v.untag = v := by obtain ⟨k, rfl, _⟩ := hv; rfl
  obtain ⟨kw, rfl, hkw⟩ := hw
  have hlzz : (zs.map vZ).length = zs.length := List.length_map _
  refine Tells.fn 9 rfl F29_ok rfl ?_
  show Tells (S29 (Am.Call T) 9 m v (.list .shared kw (zs.map vZ))) _
  have h : Sep ⟨m.objs, none⟩ fr := hs.objs rfl
  unfold S29 G29
  refine Tells.box1 h rfl rfl ?_
  intro tc m h
  refine Tells.new h ?_
  intro oc m h
  refine Tells.call (args := [v]) (by simp [hvu]) (call61 (h.psl hv) h) ?_
  rintro _ m ⟨c, rfl, h⟩
  refine Tells.range h ?_
  intro y m h
  refine (call85 (v := v) (ps := ps) (J := fun d l => ∃ ov H, OwnP ov H (d.flatMap (renP zs)) ∧ l = (y, .loop [9] b29_0 b29_2 [(3, .ptr tc 0 0), (4, .list .full 2 []), (5, .ptr oc 0 0)] .ready) :: (c, .row 0 [v]) :: (oc, .row 0 [ov]) :: (tc, .row 0 [.list .shared kw (zs.map vZ)]) :: (H ++ fr)) (Js := fun _ => False)
    (by omega) ?_ ?_ ⟨.list .full 0 [], [], ⟨.full, 0, rfl, .inl ⟨rfl, rfl⟩, .inr rfl⟩, rfl⟩ h).imp ?_
  · rintro d l ⟨ov, H, _, rfl⟩
    exact ⟨.s .z, .inl hv⟩
  · rintro d p l m hpre ⟨ov, H, ⟨g, k, rfl, how, hk⟩, rfl⟩ h
    have hd : d.length < ps.length := by
      have h1 := hpre.length_le
      have h2 := goods_len (ps := ps)
      simp at h1
      omega
    have hdl := renL_len (zs := zs) (d := d)
    obtain ⟨q, _, hpq, hp0, hp1⟩ := goods_mem.1 (hpre.subset (List.mem_append_right d (List.mem_singleton.2 rfl)))
    refine Tells.round (n := 9) T_yb (h.get .z) rfl ?_
    show Tells (evK (Am.Call T) 9 b29_0 [(9, pV p), (3, .ptr tc 0 0), (4, .list .full 2 []), (5, .ptr oc 0 0)] m _ _) _
    rw [ev29_0]
    unfold S29_0 G29_0
    refine .new ‹_› ?_
    intro nw m h
    refine .storeA ‹_› .z (by rfl) (by rfl) ?_
    intro m h
    refine tells_asN ⟨h.get (.s .z), ?_⟩
    rw [ev29_2]
    unfold S29_2 G29_2
    have h := h.mark (o' := .loop [9] b29_0 b29_2 [(3, .ptr tc 0 0), (4, .list .full 2 []), (5, .ptr oc 0 0)] .busy) (.s .z)
    by_cases hlt : p.2 < zs.length
    · obtain ⟨za, ha⟩ : ∃ z, zs[p.1.toNat]? = some z := ⟨_, List.getElem?_eq_getElem (by omega)⟩
      obtain ⟨zb, hb⟩ : ∃ z, zs[p.2.toNat]? = some z := ⟨_, List.getElem?_eq_getElem (by omega)⟩
      have hk1 : kw = 1 := hkw.resolve_right (by intro e; rw [e] at hlt; simp at hlt; omega)
      subst hk1
      have hga : (zs.map vZ)[p.1.toNat]? = some (vZ za) := by rw [List.getElem?_map, ha]; rfl
      have hgb : (zs.map vZ)[p.2.toNat]? = some (vZ zb) := by rw [List.getElem?_map, hb]; rfl
      have hren : renP zs p = [(za, zb)] := by unfold renP; rw [if_pos hlt, ha, hb]; rfl
      refine .indexA (j := 1) (by rfl) (by omega) ?_
      refine .load1 ‹_› .z (by rfl) ?_
      refine .load1 ‹_› (.s (.s (.s (.s .z)))) (by rfl) ?_
      refine .lenL ?_
      refine .lss ?_
      refine .condT (by first | assumption | omega) ?_
      refine .load1 ‹_› (.s (.s (.s .z))) (by rfl) ?_
      refine .load1 ‹_› (.s (.s (.s (.s .z)))) (by rfl) ?_
      refine .indexA (j := 0) (by rfl) (by omega) ?_
      refine .load1 ‹_› .z (by rfl) ?_
      refine .indexL (j := p.1.toNat) (by omega) hga ?_
      refine .loadC1 (by rfl) ?_
      refine .load1 ‹_› (.s (.s (.s (.s .z)))) (by rfl) ?_
      refine .indexA (j := 1) (by rfl) (by omega) ?_
      refine .load1 ‹_› .z (by rfl) ?_
      refine .indexL (j := p.2.toNat) (by omega) hgb ?_
      refine .loadC1 (by rfl) ?_
      refine .build2 ?_
      refine .bsA (by rfl) (by rfl) (by rfl) (by decide) (by decide) ?_
      have h := Sep.hfront (l1 := [_, _, _, _, _]) h
      refine Tells.appendO (n := 2) (y := pV (za, zb)) (by rw [List.length_map]; exact how) h (by rcases hk with rfl | hk; exact .inl rfl; exact .inr (by rw [hk]; rfl)) ⟨by rw [List.length_map]; simp only [room]; omega, by rw [List.length_map]; simp only [room]; omega⟩ (by omega) rfl rfl ?_
      intro g' H' m how' h
      rw [List.length_map] at how'
      have h := Sep.hfront (H := [_, _, _, _, _]) (l1 := H') (l2 := fr) h
      refine Tells.store1 h (.s (.s (.s .z))) rfl rfl ?_
      intro m h
      refine .stay (by first | exact stayK_nil | (repeat first | exact stayK_nil | refine stayK_cons ?_ ?_ | refine stayK_not ?_ | exact stayN_zero | refine stayN_succ (by rfl) (by first | exact Sep.load1 ‹_› (by first | exact .z | exact .s .z | exact .s (.s .z) | exact .s (.s (.s .z)) | exact .s (.s (.s (.s .z))) | exact .s (.s (.s (.s (.s .z)))) | exact .s (.s (.s (.s (.s (.s .z))))) | exact .s (.s (.s (.s (.s (.s (.s .z)))))) | exact .s (.s (.s (.s (.s (.s (.s (.s .z))))))) | exact .s (.s (.s (.s (.s (.s (.s (.s (.s .z)))))))) | exact .s (.s (.s (.s (.s (.s (.s (.s (.s (.s .z))))))))) | exact .s (.s (.s (.s (.s (.s (.s (.s (.s (.s (.s .z)))))))))) | exact .s (.s (.s (.s (.s (.s (.s (.s (.s (.s (.s (.s .z))))))))))) | exact .s (.s (.s (.s (.s (.s (.s (.s (.s (.s (.s (.s (.s .z))))))))))))) (by rfl) | exact Sep.loadA ‹_› (by first | exact .z | exact .s .z | exact .s (.s .z) | exact .s (.s (.s .z)) | exact .s (.s (.s (.s .z))) | exact .s (.s (.s (.s (.s .z)))) | exact .s (.s (.s (.s (.s (.s .z))))) | exact .s (.s (.s (.s (.s (.s (.s .z)))))) | exact .s (.s (.s (.s (.s (.s (.s (.s .z))))))) | exact .s (.s (.s (.s (.s (.s (.s (.s (.s .z)))))))) | exact .s (.s (.s (.s (.s (.s (.s (.s (.s (.s .z))))))))) | exact .s (.s (.s (.s (.s (.s (.s (.s (.s (.s (.s .z)))))))))) | exact .s (.s (.s (.s (.s (.s (.s (.s (.s (.s (.s (.s .z))))))))))) | exact .s (.s (.s (.s (.s (.s (.s (.s (.s (.s (.s (.s (.s .z))))))))))))) (by rfl) | rfl) ?_)) ?_
      refine tells_asN ⟨h.get (.s .z), .inl ⟨rfl, _, ⟨.list g' 2 ((d.flatMap (renP zs) ++ [(za, zb)]).map pV), H', ⟨g', 2, ?_, ?_, .inl rfl⟩, rfl⟩, ?_⟩⟩
      · rw [List.flatMap_append, List.flatMap_cons, List.flatMap_nil, List.append_nil, hren]
      · rw [List.flatMap_append, List.flatMap_cons, List.flatMap_nil, List.append_nil, hren, List.length_append]; exact how'
      · rw [List.map_append]; exact (h.mark (.s .z)).tail
    · have hren : renP zs p = [] := by unfold renP; rw [if_neg hlt]
      refine .indexA (j := 1) (by rfl) (by omega) ?_
      refine .load1 ‹_› .z (by rfl) ?_
      refine .load1 ‹_› (.s (.s (.s (.s .z)))) (by rfl) ?_
      refine .lenL ?_
      refine .lss ?_
      refine .condF (by first | assumption | omega) ?_
      skip
      refine tells_asN ⟨h.get (.s .z), .inl ⟨rfl, _, ⟨_, H, ⟨g, k, rfl, ?_, ?_⟩, rfl⟩, ?_⟩⟩
      · rw [List.flatMap_append, List.flatMap_cons, List.flatMap_nil, List.append_nil, hren, List.append_nil]; exact how
      · rw [List.flatMap_append, List.flatMap_cons, List.flatMap_nil, List.append_nil, hren, List.append_nil]; exact hk
      · rw [List.flatMap_append, List.flatMap_cons, List.flatMap_nil, List.append_nil, hren, List.append_nil]; exact (h.mark (.s .z)).tail
  · rintro _ m (⟨l', ⟨ov, H, ⟨g, k, rfl, how, hk⟩, rfl⟩, h⟩ | ⟨_, h, _⟩)
    · refine .inl ⟨_, _, _, _, h.get .z, ?_⟩
      have h := h.mark (o' := .gone) .z
      unfold S29_3 G29_3
      refine Tells.load1 h (.s (.s .z)) rfl ?_
      have h := h.tail.tail.tail.tail.right
      have hgl := goods_len (ps := ps)
      have hrl := renL_len (zs := zs) (d := goods ps)
      refine Tells.call (args := [.list .shared k ((renL zs ps).map pV)]) rfl (call32 (.inl ⟨k, rfl, by rcases hk with hk | hk; exact .inl hk; exact .inr hk⟩) (by unfold renL; omega) h) ?_
      rintro x m ⟨H2, hx, h⟩
      refine Tells.ret rfl rfl ?_
      intro m' hobj
      refine ⟨by rcases hx with ⟨g, k, rfl, _⟩ | ⟨id, ver, cs, _, rfl, _⟩ <;> rfl, H2, ?_, h.objs hobj⟩
      show RowR x.untag H2 2 _
      rcases hx with ⟨g, k, rfl, h1, h2⟩ | ⟨id, ver, cs, h1, rfl, h3⟩
      · exact .inl ⟨.shared, k, rfl, h1, h2⟩
      · exact .inr ⟨id, ver, cs, h1, rfl, h3⟩
    · exact h.elim
end Go.Proofs.P17
namespace Go.Proofs.P17
set_option linter.all false
open Go Go.Am

theorem ord_goods {ps : List (Int × Int)} : ∀ p ∈ goods ps, 0 ≤ p.1 ∧ p.1 < p.2 := fun _ h => (goods_mem.1 h).elim fun _ h => ⟨h.2.2.1, h.2.2.2⟩
theorem ofP_sorted {ps : List (Int × Int)} : (ofP ps).Pairwise (fun a b => leP a b = true ∧ a ≠ b) ∧ ∀ x, x ∈ ofP ps ↔ x ∈ goods ps := by
  obtain ⟨h1, h2⟩ := comp_sorted (l := sortP (goods ps)) (List.pairwise_mergeSort leP_trans leP_total _)
  exact ⟨h1, fun x => (h2 x).trans (List.mem_mergeSort)⟩
theorem formP_of {l : List (Int × Int)} (hs : l.Pairwise fun a b => leP a b = true ∧ a ≠ b) (hg : ∀ p ∈ l, 0 ≤ p.1 ∧ p.1 < p.2) : FormP l := by
  intro i p hp
  obtain ⟨h1, h2⟩ := hg p (List.mem_of_getElem? hp)
  refine ⟨h1, h2, ?_⟩
  intro q hi hq
  obtain ⟨hil, rfl⟩ := List.getElem?_eq_some_iff.1 hp
  obtain ⟨hil', rfl⟩ := List.getElem?_eq_some_iff.1 hq
  obtain ⟨h3, h4⟩ := (List.pairwise_iff_getElem.1 hs) (i - 1) i hil' hil (by omega)
  have h5 : l[i - 1].1 < l[i].1 ∨ l[i - 1].1 = l[i].1 ∧ l[i - 1].2 ≤ l[i].2 := by
    simp only [leP, decide_eq_true_eq] at h3
    exact h3
  have h6 : ¬ (l[i - 1].1 = l[i].1 ∧ l[i - 1].2 = l[i].2) := fun e => h4 (Prod.ext e.1 e.2)
  omega
theorem ofP_form {ps : List (Int × Int)} : FormP (ofP ps) := formP_of ofP_sorted.1 fun p hp => ord_goods p ((ofP_sorted.2 p).1 hp)

theorem hasP_iff {ps : List (Int × Int)} {a b : Int} : hasP ps a b = true ↔ (a, b) ∈ ps ∨ (b, a) ∈ ps := by
  unfold hasP
  rw [List.any_eq_true]
  constructor
  · rintro ⟨p, hp, h⟩
    rcases Bool.or_eq_true_iff.1 h with h | h
    · obtain ⟨h1, h2⟩ := Bool.and_eq_true_iff.1 h
      have h1 := of_decide_eq_true h1
      have h2 := of_decide_eq_true h2
      subst h1 h2
      exact .inl hp
    · obtain ⟨h1, h2⟩ := Bool.and_eq_true_iff.1 h
      have h1 := of_decide_eq_true h1
      have h2 := of_decide_eq_true h2
      subst h1 h2
      exact .inr hp
  · rintro (h | h)
    · exact ⟨_, h, by simp⟩
    · exact ⟨_, h, by simp⟩
theorem hasR_iff {ps : List (Int × Int)} {a b : Int} : hasR ps a b = true ↔ 0 ≤ a ∧ 0 ≤ b ∧ a ≠ b ∧ ((a, b) ∈ ps ∨ (b, a) ∈ ps) := by
  unfold hasR
  rw [Bool.and_eq_true_iff, hasP_iff]
  simp only [Bool.not_eq_true', Bool.or_eq_false_iff, decide_eq_false_iff_not]
  constructor
  · rintro ⟨⟨⟨h1, h2⟩, h3⟩, h4⟩; exact ⟨by omega, by omega, h3, h4⟩
  · rintro ⟨h1, h2, h3, h4⟩; exact ⟨⟨⟨by omega, by omega⟩, h3⟩, h4⟩
theorem hasR_goods {ps : List (Int × Int)} {a b : Int} : hasR ps a b = true ↔ (min a b, max a b) ∈ goods ps := by
  rw [hasR_iff, goods_mem]
  constructor
  · rintro ⟨h1, h2, h3, h4 | h4⟩
    · exact ⟨_, h4, rfl, by show 0 ≤ min a b; omega, by show min a b < max a b; omega⟩
    · refine ⟨_, h4, ?_, by show 0 ≤ min a b; omega, by show min a b < max a b; omega⟩
      show (min a b, max a b) = (min b a, max b a)
      rw [Int.min_comm, Int.max_comm]
  · rintro ⟨q, hq, he, h1, h2⟩
    have h3 := congrArg Prod.fst he
    have h4 := congrArg Prod.snd he
    replace h1 : 0 ≤ min a b := h1
    replace h2 : min a b < max a b := h2
    replace h3 : min a b = min q.1 q.2 := h3
    replace h4 : max a b = max q.1 q.2 := h4
    refine ⟨by omega, by omega, by omega, ?_⟩
    by_cases h5 : q.1 = a
    · have h6 : q.2 = b := by omega
      subst h5 h6
      exact .inl hq
    · have h6 : q.1 = b := by omega
      have h7 : q.2 = a := by omega
      subst h6 h7
      exact .inr hq
theorem hasR_of {ps qs : List (Int × Int)} (h : ∀ x, x ∈ qs ↔ x ∈ goods ps) {a b : Int} : hasR qs a b = hasR ps a b := by
  apply Bool.eq_iff_iff.2
  rw [hasR_goods (ps := ps), hasR_iff, h, h]
  constructor
  · rintro ⟨h1, h2, h3, h4 | h4⟩
    · have := (ord_goods _ h4).2
      replace this : a < b := this
      rw [show min a b = a by omega, show max a b = b by omega]; exact h4
    · have := (ord_goods _ h4).2
      replace this : b < a := this
      rw [show min a b = b by omega, show max a b = a by omega]; exact h4
  · intro h1
    have h2 := ord_goods _ h1
    replace h2 : 0 ≤ min a b ∧ min a b < max a b := h2
    refine ⟨by omega, by omega, by omega, ?_⟩
    by_cases h3 : a < b
    · rw [show min a b = a by omega, show max a b = b by omega] at h1; exact .inl h1
    · rw [show min a b = b by omega, show max a b = a by omega] at h1; exact .inr h1
theorem hasR_ofP {ps : List (Int × Int)} {a b : Int} : hasR (ofP ps) a b = hasR ps a b := hasR_of ofP_sorted.2
theorem ofP_hasR {ps : List (Int × Int)} {p : Int × Int} (h : p ∈ ofP ps) : hasR ps p.1 p.2 = true := by
  have h1 := (ofP_sorted.2 p).1 h
  have h2 := ord_goods p h1
  rw [hasR_goods, show min p.1 p.2 = p.1 by omega, show max p.1 p.2 = p.2 by omega]
  exact h1

/-- What the document says the renamed pairs are. -/
def wantP (zs : List Int) (p : Int × Int) : List (Int × Int) := if 0 ≤ p.1 ∧ 0 ≤ p.2 ∧ p.1 ≠ p.2 ∧ p.1 < zs.length ∧ p.2 < zs.length then [((zs[p.1.toNat]?).getD 0, (zs[p.2.toNat]?).getD 0)] else []
def wantL (zs : List Int) (ps : List (Int × Int)) : List (Int × Int) := ps.flatMap (wantP zs)

theorem ren_want {zs : List Int} {ps : List (Int × Int)} {a b : Int} : hasR (renL zs ps) a b = hasR (wantL zs ps) a b := by
  apply Bool.eq_iff_iff.2
  rw [hasR_iff, hasR_iff]
  have key : ∀ a b, (a, b) ∈ renL zs ps → (a, b) ∈ wantL zs ps ∨ (b, a) ∈ wantL zs ps := by
    intro a b h
    obtain ⟨p, hp, h1⟩ := List.mem_flatMap.1 h
    obtain ⟨q, hq, rfl, h2, h3⟩ := goods_mem.1 hp
    unfold renP at h1
    split at h1
    · rename_i h4
      replace h2 : 0 ≤ min q.1 q.2 := h2
      replace h3 : min q.1 q.2 < max q.1 q.2 := h3
      replace h4 : max q.1 q.2 < zs.length := h4
      have h5 := List.mem_singleton.1 h1
      have h6 : wantP zs q = [((zs[q.1.toNat]?).getD 0, (zs[q.2.toNat]?).getD 0)] := by unfold wantP; rw [if_pos ⟨by omega, by omega, by omega, by omega, by omega⟩]
      have h7 : ((zs[q.1.toNat]?).getD 0, (zs[q.2.toNat]?).getD 0) ∈ wantL zs ps := List.mem_flatMap.2 ⟨q, hq, by rw [h6]; exact List.mem_singleton.2 rfl⟩
      replace h5 : (a, b) = ((zs[(min q.1 q.2).toNat]?).getD 0, (zs[(max q.1 q.2).toNat]?).getD 0) := h5
      by_cases h8 : q.1 < q.2
      · rw [show min q.1 q.2 = q.1 by omega, show max q.1 q.2 = q.2 by omega] at h5
        rw [← h5] at h7
        exact .inl h7
      · rw [show min q.1 q.2 = q.2 by omega, show max q.1 q.2 = q.1 by omega] at h5
        obtain ⟨rfl, rfl⟩ := Prod.mk.inj h5
        exact .inr h7
    · cases h1
  have back : ∀ a b, (a, b) ∈ wantL zs ps → (a, b) ∈ renL zs ps ∨ (b, a) ∈ renL zs ps := by
    intro a b h
    obtain ⟨q, hq, h1⟩ := List.mem_flatMap.1 h
    unfold wantP at h1
    split at h1
    · rename_i h4
      obtain ⟨h4, h5, h6, h7, h8⟩ := h4
      have h9 := List.mem_singleton.1 h1
      have hg : (min q.1 q.2, max q.1 q.2) ∈ goods ps := goods_mem.2 ⟨q, hq, rfl, by show 0 ≤ min q.1 q.2; omega, by show min q.1 q.2 < max q.1 q.2; omega⟩
      have h10 : renP zs (min q.1 q.2, max q.1 q.2) = [((zs[(min q.1 q.2).toNat]?).getD 0, (zs[(max q.1 q.2).toNat]?).getD 0)] := by unfold renP; rw [if_pos (by show max q.1 q.2 < _; omega)]
      have h11 : ((zs[(min q.1 q.2).toNat]?).getD 0, (zs[(max q.1 q.2).toNat]?).getD 0) ∈ renL zs ps := List.mem_flatMap.2 ⟨_, hg, by rw [h10]; exact List.mem_singleton.2 rfl⟩
      by_cases h8 : q.1 < q.2
      · rw [show min q.1 q.2 = q.1 by omega, show max q.1 q.2 = q.2 by omega, ← h9] at h11
        exact .inl h11
      · rw [show min q.1 q.2 = q.2 by omega, show max q.1 q.2 = q.1 by omega] at h11
        obtain ⟨rfl, rfl⟩ := Prod.mk.inj h9
        exact .inr h11
    · cases h1
  constructor
  · rintro ⟨h1, h2, h3, h4 | h4⟩
    · exact ⟨h1, h2, h3, key _ _ h4⟩
    · exact ⟨h1, h2, h3, (key _ _ h4).symm⟩
  · rintro ⟨h1, h2, h3, h4 | h4⟩
    · exact ⟨h1, h2, h3, back _ _ h4⟩
    · exact ⟨h1, h2, h3, (back _ _ h4).symm⟩
end Go.Proofs.P17
namespace Go.Proofs.P17
set_option linter.all false
open Go Go.Am

/-- What is left of a rising row when runs are made single. -/
theorem compact_up {d : Array Int} (hd : ∀ i j, i ≤ j → j < d.size → d[i]! ≤ d[j]!) : ∀ m, m ≤ d.size →
    (Lib.compactUpTo d m).Pairwise (· < ·) ∧ (∀ x, x ∈ Lib.compactUpTo d m ↔ ∃ i, i < m ∧ d[i]! = x) := by
  intro m
  induction m with
  | zero => intro _; exact ⟨by simp [Lib.compactUpTo], fun x => ⟨fun h => by simp [Lib.compactUpTo] at h, fun ⟨i, h, _⟩ => by omega⟩⟩
  | succ m ih =>
    intro hm
    obtain ⟨h1, h2⟩ := ih (by omega)
    rw [Lib.compactUpTo_succ]
    by_cases hk : Lib.keeps d m = true
    · rw [if_pos hk]
      constructor
      · rw [List.pairwise_append]
        refine ⟨h1, by simp, fun x hx y hy => ?_⟩
        rw [List.mem_singleton] at hy
        subst hy
        obtain ⟨i, i1, rfl⟩ := (h2 x).1 hx
        have hne : d[m]! ≠ d[m - 1]! := by
          simp only [Lib.keeps, decide_eq_true_eq] at hk
          exact hk.resolve_left (by omega)
        have a1 := hd i (m - 1) (by omega) (by omega)
        have a2 := hd (m - 1) m (by omega) (by omega)
        omega
      · intro x
        rw [List.mem_append, h2, List.mem_singleton]
        constructor
        · rintro (⟨i, i1, i2⟩ | rfl)
          · exact ⟨i, by omega, i2⟩
          · exact ⟨m, by omega, rfl⟩
        · rintro ⟨i, i1, i2⟩
          by_cases e : i = m
          · subst e; exact .inr i2.symm
          · exact .inl ⟨i, by omega, i2⟩
    · rw [if_neg hk, List.append_nil]
      refine ⟨h1, fun x => ?_⟩
      rw [h2]
      have h0 : m ≠ 0 ∧ d[m]! = d[m - 1]! := by
        simp only [Lib.keeps, decide_eq_true_eq, not_or, Classical.not_not] at hk
        exact hk
      constructor
      · rintro ⟨i, i1, i2⟩; exact ⟨i, by omega, i2⟩
      · rintro ⟨i, i1, i2⟩
        by_cases e : i = m
        · subst e; exact ⟨i - 1, by omega, by rw [← h0.2]; exact i2⟩
        · exact ⟨i, by omega, i2⟩

theorem sort_up {zs : List Int} : (Lib.compact (sortI zs)).Pairwise (· < ·) ∧ ∀ x, x ∈ Lib.compact (sortI zs) ↔ x ∈ zs := by
  have hp : (sortI zs).Pairwise (fun x y => decide (x ≤ y) = true) := List.pairwise_mergeSort (fun a b c h1 h2 => by simp at *; omega) (fun a b => by simp; omega) zs
  have hd : ∀ i j, i ≤ j → j < (sortI zs).toArray.size → (sortI zs).toArray[i]! ≤ (sortI zs).toArray[j]! := by
    intro i j hij hj
    have hj' : j < (sortI zs).length := by simpa using hj
    by_cases e : i = j
    · subst e; exact Int.le_refl _
    · have := List.pairwise_iff_getElem.1 hp i j (by omega) hj' (by omega)
      simp only [decide_eq_true_eq] at this
      rw [getElem!_pos (sortI zs).toArray i (by simpa using (show i < (sortI zs).length by omega)), getElem!_pos (sortI zs).toArray j hj]
      simpa using this
  obtain ⟨h1, h2⟩ := compact_up hd (sortI zs).length (by simp)
  refine ⟨h1, fun x => ?_⟩
  unfold Lib.compact
  rw [h2]
  have hm : x ∈ sortI zs ↔ x ∈ zs := List.mem_mergeSort
  rw [← hm, List.mem_iff_getElem]
  constructor
  · rintro ⟨i, i1, i2⟩
    refine ⟨i, i1, ?_⟩
    rw [getElem!_pos (sortI zs).toArray i (by simpa using i1)] at i2
    simpa using i2
  · rintro ⟨i, i1, i2⟩
    refine ⟨i, i1, ?_⟩
    rw [getElem!_pos (sortI zs).toArray i (by simpa using i1)]
    simpa using i2

/-- Places: not negative, sorted, each once. -/
def posL (zs : List Int) : List Int := zs.filter fun z => !decide (z < 0)
def plcL (zs : List Int) : List Int := Lib.compact (sortI (posL zs))
def inR (zs : List Int) (z : Int) : Bool := zs.any fun y => decide (y = z) && decide (0 ≤ z)
def RiseP (zs : List Int) : Prop := ∀ (i : Nat) (z : Int), zs[i]? = some z → 0 ≤ z ∧ ∀ y, 0 < i → zs[i - 1]? = some y → y < z

theorem plc_mem {zs : List Int} {z : Int} : z ∈ plcL zs ↔ z ∈ zs ∧ 0 ≤ z := by
  unfold plcL
  rw [sort_up.2]
  unfold posL
  rw [List.mem_filter]
  simp
theorem plc_rise {zs : List Int} : RiseP (plcL zs) := by
  intro i z hz
  refine ⟨(plc_mem.1 (List.mem_of_getElem? hz)).2, fun y h0 hy => ?_⟩
  obtain ⟨a1, a2⟩ := List.getElem?_eq_some_iff.1 hz
  obtain ⟨b1, b2⟩ := List.getElem?_eq_some_iff.1 hy
  have := List.pairwise_iff_getElem.1 (sort_up (zs := posL zs)).1 (i - 1) i b1 a1 (by omega)
  rw [← a2, ← b2]
  exact this
theorem inR_iff {zs : List Int} {z : Int} : inR zs z = true ↔ z ∈ zs ∧ 0 ≤ z := by
  unfold inR
  rw [List.any_eq_true]
  simp only [Bool.and_eq_true, decide_eq_true_eq]
  constructor
  · rintro ⟨y, h1, rfl, h2⟩; exact ⟨h1, h2⟩
  · rintro ⟨h1, h2⟩; exact ⟨z, h1, rfl, h2⟩
theorem inR_plc {zs : List Int} {z : Int} : inR (plcL zs) z = inR zs z := by
  rw [Bool.eq_iff_iff, inR_iff, inR_iff, plc_mem]
  exact ⟨fun h => h.1, fun h => ⟨h, h.2⟩⟩

/-- What is related to places. -/
def relP (own : List Int) (p : Int × Int) : List Int := if own.contains p.1 || own.contains p.2 then [p.1, p.2] else []
def relL (ps : List (Int × Int)) (zs : List Int) : List Int := plcL (plcL zs ++ (goods ps).flatMap (relP (plcL zs)))
def relR (ps : List (Int × Int)) (zs : List Int) (z : Int) : Bool := inR zs z || zs.any fun y => hasR ps y z

theorem rel_in {ps : List (Int × Int)} {zs : List Int} {z : Int} : inR (relL ps zs) z = relR ps zs z := by
  rw [Bool.eq_iff_iff]
  unfold relL relR
  rw [inR_plc, Bool.or_eq_true, inR_iff, inR_iff, List.mem_append, plc_mem, List.any_eq_true, List.mem_flatMap]
  constructor
  · rintro ⟨⟨h, h0⟩ | ⟨p, hp, hz⟩, h0⟩
    · exact .inl ⟨h, h0⟩
    · unfold relP at hz
      split at hz
      · rename_i hc
        have hg := ord_goods p hp
        simp only [Bool.or_eq_true, List.contains_iff_mem, plc_mem] at hc
        simp only [List.mem_cons, List.not_mem_nil, or_false] at hz
        have hmm : min p.1 p.2 = p.1 ∧ max p.1 p.2 = p.2 := by omega
        have hmm' : min p.2 p.1 = p.1 ∧ max p.2 p.1 = p.2 := by omega
        have hpp : (p.1, p.2) ∈ goods ps := hp
        rcases hc with hc | hc <;> rcases hz with rfl | rfl
        · exact .inl hc
        · exact .inr ⟨p.1, hc.1, by rw [hasR_goods, hmm.1, hmm.2]; exact hpp⟩
        · exact .inr ⟨p.2, hc.1, by rw [hasR_goods, hmm'.1, hmm'.2]; exact hpp⟩
        · exact .inl hc
      · simp at hz
  · rintro (⟨h, h0⟩ | ⟨y, hy, hr⟩)
    · exact ⟨.inl ⟨h, h0⟩, h0⟩
    · obtain ⟨h1, h2, h3, _⟩ := hasR_iff.1 hr
      refine ⟨.inr ⟨_, hasR_goods.1 hr, ?_⟩, h2⟩
      unfold relP
      have hc : ((plcL zs).contains (min y z, max y z).1 || (plcL zs).contains (min y z, max y z).2) = true := by
        simp only [Bool.or_eq_true, List.contains_iff_mem, plc_mem]
        by_cases hyz : y < z
        · left; rw [show min y z = y by omega]; exact ⟨hy, h1⟩
        · right; rw [show max y z = y by omega]; exact ⟨hy, h1⟩
      rw [if_pos hc]
      show z ∈ [min y z, max y z]
      by_cases hyz : y < z
      · rw [show max y z = z by omega]; simp
      · rw [show min y z = z by omega]; simp
theorem rel_rise {ps : List (Int × Int)} {zs : List Int} : RiseP (relL ps zs) := plc_rise

/-- Pairs that are closed over places. -/
def cloTo (zs : List Int) : Nat → List (Int × Int)
  | 0 => []
  | i + 1 => cloTo zs i ++ (zs.take i).map fun y => ((zs[i]?).getD 0, y)
def cloL (zs : List Int) : List (Int × Int) := cloTo zs zs.length

theorem cloTo_mem {zs : List Int} {a b : Int} : ∀ {n : Nat}, n ≤ zs.length → ((a, b) ∈ cloTo zs n ↔ ∃ i j, j < i ∧ i < n ∧ zs[i]? = some a ∧ zs[j]? = some b)
  | 0, _ => by simp [cloTo]
  | n + 1, hn => by
    rw [cloTo, List.mem_append, cloTo_mem (by omega), List.mem_map]
    obtain ⟨c, hc⟩ : ∃ c, zs[n]? = some c := ⟨_, List.getElem?_eq_getElem (by omega)⟩
    rw [hc]
    constructor
    · rintro (⟨i, j, h1, h2, h3⟩ | ⟨y, hy, he⟩)
      · exact ⟨i, j, h1, by omega, h3⟩
      · simp only [Option.getD_some, Prod.mk.injEq] at he
        obtain ⟨rfl, rfl⟩ := he
        obtain ⟨j, hj⟩ := List.mem_iff_getElem?.1 hy
        rw [List.getElem?_take] at hj
        split at hj
        · exact ⟨n, j, by omega, by omega, hc, hj⟩
        · cases hj
    · rintro ⟨i, j, h1, h2, h3, h4⟩
      by_cases e : i = n
      · subst e
        rw [hc] at h3
        cases h3
        refine .inr ⟨b, ?_, rfl⟩
        refine List.mem_iff_getElem?.2 ⟨j, ?_⟩
        rw [List.getElem?_take, if_pos h1]
        exact h4
      · exact .inl ⟨i, j, h1, by omega, h3, h4⟩
theorem clo_mem {zs : List Int} {a b : Int} (hne : a ≠ b) : ((a, b) ∈ cloL zs ∨ (b, a) ∈ cloL zs) ↔ a ∈ zs ∧ b ∈ zs := by
  unfold cloL
  rw [cloTo_mem (Nat.le_refl _), cloTo_mem (Nat.le_refl _)]
  constructor
  · rintro (⟨i, j, _, _, h3, h4⟩ | ⟨i, j, _, _, h3, h4⟩)
    · exact ⟨List.mem_of_getElem? h3, List.mem_of_getElem? h4⟩
    · exact ⟨List.mem_of_getElem? h4, List.mem_of_getElem? h3⟩
  · rintro ⟨ha, hb⟩
    obtain ⟨i, hi⟩ := List.mem_iff_getElem?.1 ha
    obtain ⟨j, hj⟩ := List.mem_iff_getElem?.1 hb
    have hij : i ≠ j := by rintro rfl; rw [hi] at hj; cases hj; exact hne rfl
    have h1 := (List.getElem?_eq_some_iff.1 hi).1
    have h2 := (List.getElem?_eq_some_iff.1 hj).1
    by_cases e : j < i
    · exact .inl ⟨i, j, e, h1, hi, hj⟩
    · exact .inr ⟨j, i, by omega, h2, hj, hi⟩
theorem hasP_app {ps qs : List (Int × Int)} {a b : Int} : hasP (ps ++ qs) a b = (hasP ps a b || hasP qs a b) := by
  unfold hasP; rw [List.any_append]
theorem hasR_app {ps qs : List (Int × Int)} {a b : Int} : hasR (ps ++ qs) a b = (hasR ps a b || hasR qs a b) := by
  unfold hasR
  rw [hasP_app, Bool.and_or_distrib_left]
theorem hasR_clo {zs : List Int} {a b : Int} : hasR (cloL zs) a b = (decide (a ≠ b) && inR zs a && inR zs b) := by
  rw [Bool.eq_iff_iff, hasR_iff, Bool.and_eq_true, Bool.and_eq_true, inR_iff, inR_iff, decide_eq_true_eq]
  constructor
  · rintro ⟨h1, h2, h3, h4⟩
    have := (clo_mem h3).1 h4
    exact ⟨⟨h3, this.1, h1⟩, this.2, h2⟩
  · rintro ⟨⟨h3, h4, h1⟩, h5, h2⟩
    exact ⟨h1, h2, h3, (clo_mem h3).2 ⟨h4, h5⟩⟩

/-- Pairs without places. -/
def outP (zs : List Int) (p : Int × Int) : Bool := zs.contains p.1 || zs.contains p.2
def wioL (ps : List (Int × Int)) (zs : List Int) : List (Int × Int) := (ofP ps).filter fun p => !outP zs p

theorem wio_form {ps : List (Int × Int)} {zs : List Int} : FormP (wioL ps zs) :=
  formP_of (ofP_sorted.1.sublist List.filter_sublist) fun p hp => ord_goods p ((ofP_sorted.2 p).1 (List.mem_filter.1 hp).1)
theorem hasR_wio {ps : List (Int × Int)} {zs : List Int} {a b : Int} : hasR (wioL ps zs) a b = (hasR ps a b && !inR zs a && !inR zs b) := by
  rw [Bool.eq_iff_iff, Bool.and_eq_true, Bool.and_eq_true, ← hasR_ofP (ps := ps), hasR_iff, hasR_iff]
  have key : ∀ x y : Int, 0 ≤ x → 0 ≤ y → ((x, y) ∈ wioL ps zs ↔ (x, y) ∈ ofP ps ∧ inR zs x = false ∧ inR zs y = false) := by
    intro x y hx hy
    unfold wioL
    rw [List.mem_filter]
    refine and_congr_right fun _ => ?_
    rw [← Bool.not_eq_true, ← Bool.not_eq_true, inR_iff, inR_iff]
    simp [outP, List.contains_iff_mem, hx, hy]
  constructor
  · rintro ⟨h1, h2, h3, h4⟩
    rw [key _ _ h1 h2, key _ _ h2 h1] at h4
    rcases h4 with ⟨h4, h5, h6⟩ | ⟨h4, h6, h5⟩
    · exact ⟨⟨⟨h1, h2, h3, .inl h4⟩, by rw [h5]; rfl⟩, by rw [h6]; rfl⟩
    · exact ⟨⟨⟨h1, h2, h3, .inr h4⟩, by rw [h5]; rfl⟩, by rw [h6]; rfl⟩
  · rintro ⟨⟨⟨h1, h2, h3, h4⟩, h5⟩, h6⟩
    rw [Bool.not_eq_true'] at h5 h6
    refine ⟨h1, h2, h3, ?_⟩
    rw [key _ _ h1 h2, key _ _ h2 h1]
    rcases h4 with h4 | h4
    · exact .inl ⟨h4, h5, h6⟩
    · exact .inr ⟨h4, h6, h5⟩
end Go.Proofs.P17
namespace Go.Proofs.P17
set_option linter.all false
open Go Go.Am

theorem PSl.elems {m : Mem} {l : Heap} {b : AV} {ps : List (Int × Int)} (h : PSl b l ps) (hs : Sep m l) : m.elems 2 b = some (ps.map pV) := by
  rcases h with ⟨k, rfl, hk⟩ | ⟨id, ver, cs, rfl, hh, hc⟩
  · refine elems_lst ?_
    rcases hk with rfl | rfl
    · exact .inl rfl
    · exact .inr rfl
  · simp only [Mem.elems, hs.get hh]
    rw [if_pos ⟨trivial, by have := hc.1; omega⟩]
    refine congrArg some (List.ext_getElem? fun i => ?_)
    by_cases hi : i < ps.length
    · obtain ⟨p, hp⟩ : ∃ p, ps[i]? = some p := ⟨_, List.getElem?_eq_getElem hi⟩
      obtain ⟨_, p2⟩ := prow_pair hc hp
      rw [List.getElem?_map, List.getElem?_range hi, List.getElem?_map, hp]
      simp [p2]
    · rw [List.getElem?_eq_none (by simp; omega), List.getElem?_eq_none (by simp; omega)]
theorem ISl.elems {m : Mem} {l : Heap} {b : AV} {zs : List Int} (h : ISl b l zs) (hs : Sep m l) : m.elems 1 b = some (zs.map vZ) := by
  rcases h with ⟨k, rfl, hk⟩ | ⟨id, ver, off, cs, rfl, hh, hc, hg⟩
  · refine elems_lst ?_
    rcases hk with rfl | rfl
    · exact .inl rfl
    · exact .inr rfl
  · simp only [Mem.elems, hs.get hh]
    rw [if_pos ⟨trivial, by omega⟩]
    refine congrArg some (List.ext_getElem? fun i => ?_)
    by_cases hi : i < zs.length
    · obtain ⟨z, hz⟩ : ∃ z, zs[i]? = some z := ⟨_, List.getElem?_eq_getElem hi⟩
      rw [List.getElem?_map, List.getElem?_range hi, List.getElem?_map, hz]
      simp [hg i z hz]
    · rw [List.getElem?_eq_none (by simp; omega), List.getElem?_eq_none (by simp; omega)]
theorem pVs_untag {ps : List (Int × Int)} : ∀ y ∈ ps.map pV, y.untag = y := by
  intro y hy
  obtain ⟨p, _, rfl⟩ := List.mem_map.1 hy
  rfl
theorem vZs_untag {zs : List Int} : ∀ y ∈ zs.map vZ, y.untag = y := by
  intro y hy
  obtain ⟨p, _, rfl⟩ := List.mem_map.1 hy
  rfl
theorem vZs_cells {zs : List Int} : ∀ y ∈ zs.map vZ, y.cells.length = 1 := by
  intro y hy
  obtain ⟨p, _, rfl⟩ := List.mem_map.1 hy
  rfl
/-- What lies in a list is taken out. -/
theorem _root_.Go.Am.Tells.loadPS {m : Mem} {l : Heap} {P : AV → Mem → Prop} {x : AV} {ps : List (Int × Int)} (hx : PSl x l ps) {k : KV} (hk : Tells (k x m) P) : Tells (loadK none (.cptr x) m k) P := by
  rcases hx with ⟨kk, rfl, _⟩ | ⟨id, ver, cs, rfl, _⟩
  · exact Tells.of_eq (by rw [loadK_eq]; rfl) hk
  · exact Tells.of_eq (by rw [loadK_eq]; rfl) hk
theorem _root_.Go.Am.Tells.bsL {m : Mem} {P : AV → Mem → Prop} {x y z : AV} (hx : x.untag = x) (hy : y.untag = y) (cx : x.cells = [x] ∧ x.solid = true) (cy : y.cells = [y] ∧ y.solid = true) {k : KV} (hk : Tells (k (.list .full 1 [x, y]) m) P) : Tells (buildSliceK 1 [z] 2 false [(0 * 1, 1, AV.untag x), (1 * 1, 1, AV.untag y)] m k) P := by
  refine Tells.of_eq ?_ hk
  rw [hx, hy]
  simp [buildSliceK, fillParts, rep, cx.1, cx.2, cy.1, cy.2, setCells, toElems]

theorem call89 {m : Mem} {l : Heap} {n k : Nat} (hn : n < 4294967296) (hs : Sep m l) : Tells (Am.Call T 89 [.list .full k [], vI n] m) fun v m' => ∃ H, RowO v H 2 [] ∧ (n = 0 → H = []) ∧ Sep m' (H ++ l) := by
  by_cases h0 : n = 0
  · subst h0
    exact Tells.orc (r := (.list .full k [], m)) rfl rfl ⟨[], RowO.nil, fun _ => rfl, hs⟩
  · refine Tells.orc (r := (.ref m.objs.length 2 0 0, m.push (.row 2 []))) rfl ?_ ⟨[(m.objs.length, .row 2 [])], .inr ⟨m.objs.length, 2, rfl, rfl, rfl⟩, fun e => absurd e h0, hs.push _⟩
    show growO 2 16 [.list .full k [], vI n] m = _
    show (if (n : Int) = 0 then some (AV.list Tag.full k [], m) else if 0 < (n : Int) ∧ (n : Int).toNat * 16 ≤ room ∧ (n : Int).toNat ≤ 4611686018427387904 then some (AV.ref m.objs.length 2 0 0, m.push (AObj.row 2 [])) else none) = _
    rw [if_neg (by omega), if_pos ⟨by omega, by simp only [Int.toNat_natCast, room]; omega, by simp only [Int.toNat_natCast]; omega⟩]

attribute [local irreducible] loadK storeK newK boxK tipK makeMapK buildTK buildK buildSliceK nilK binK unK condK convK eqvK pickK gK gDK vK extractK fieldK lookupK mapUpdateK appendK min2K max2K retK makeSliceK freezeK bytesK loopV blkK stayK sameK rangeK callK aFieldAddr aIndexAddr aIndexAddrA aLen aIndex aSlice
def sz2 (a b : Nat) : Nat → Nat
  | 0 => 0
  | 1 => a
  | _ => a + b
def pre2 {α : Type} (ps qs : List α) : Nat → List α
  | 0 => []
  | 1 => ps
  | _ => ps ++ qs

set_option maxHeartbeats 8000000 in
theorem call68 {m : Mem} {l : Heap} {x y : AV} {ps qs : List (Int × Int)} (hx : PSl x l ps) (hy : PSl y l qs) (hl : ps.length + qs.length < 4294967296) (hs : Sep m l) :
    Tells (Am.Call T 68 [.list .shared 1 [x, y]] m) fun r m' => ∃ H, RowR r H 2 ((ps ++ qs).map pV) ∧ Sep m' (H ++ l) := by
  refine Tells.fn 9 rfl F68_ok rfl ?_
  show Tells (S68 (Am.Call T) 9 m (.list .shared 1 [x, y])) _
  have h : Sep ⟨m.objs, none⟩ l := hs.objs rfl
  unfold S68 G68
  refine Tells.lenL ?_
  refine Tells.loop (fun j vs m => ∃ i : Nat, i + j = 2 ∧ vs = [.list .shared 1 [x, y], vI (sz2 ps.length qs.length i), .list .shared 1 [x, y], vI 2, vI i] ∧ Sep m l) ?_ (i := 2) (by omega) ?_
  · rintro j vs m L2 ⟨i, j1, rfl, h⟩ hL
    unfold S68_2 G68_2
    have z0 : sz2 ps.length qs.length 0 = 0 := rfl
    have z1 : sz2 ps.length qs.length 1 = ps.length := rfl
    match i, j1 with
    | 0, j1 =>
      refine .lss ?_
      refine .condtt ?_
      refine .indexL (j := 0) rfl rfl ?_
      refine .loadPS hx ?_
      refine .psLen hx ?_
      refine .add (c := (ps.length : Int)) (by omega) (by omega) ?_
      refine .lss ?_
      refine .condff ?_
      refine .add (by rfl) (by omega) ?_
      exact hL (j - 1) _ _ (by omega) ⟨1, by omega, rfl, h⟩
    | 1, j1 =>
      refine .lss ?_
      refine .condtt ?_
      refine .indexL (j := 1) rfl rfl ?_
      refine .loadPS hy ?_
      refine .psLen hy ?_
      refine .add (c := ((ps.length + qs.length : Nat) : Int)) (by omega) (by omega) ?_
      refine .lss ?_
      refine .condff ?_
      refine .add (by rfl) (by omega) ?_
      exact hL (j - 1) _ _ (by omega) ⟨2, by omega, rfl, h⟩
    | 2, j1 =>
      refine .lss ?_
      refine .condff ?_
      refine .blk ?_
      unfold S68_6 G68_6
      refine Tells.call (args := [.list .full 0 [], vI (ps.length + qs.length)]) rfl (call89 hl h) ?_
      rintro v m ⟨H, hv, hH, h⟩
      refine Tells.lenL ?_
      refine Tells.loop (fun j vs m => ∃ (i : Nat) (v : AV) (H : Heap), i + j = 2 ∧ vs = [v, .list .shared 1 [x, y], vI 2, vI i] ∧ RowO v H 2 ((pre2 ps qs i).map pV) ∧ (ps.length + qs.length = 0 → H = []) ∧ Sep m (H ++ l)) ?_ (i := 2) (by omega) ?_
      · rintro j vs m L2 ⟨i, v, H, j1, rfl, hv, hH, h⟩ hL
        unfold S68_4 G68_4
        match i, j1 with
        | 0, j1 =>
          refine .lss ?_
          refine .condtt ?_
          refine .indexL (j := 0) rfl rfl ?_
          refine .loadPS hx ?_
          refine Tells.appendRowN (ys := ps.map pV) hv pVs_cells h (hx.under.elems h) (by rw [List.length_map, List.length_map]; simp only [pre2, room, List.length_nil]; omega) (by omega) pVs_untag pVs_cells ?_
          intro v' H' m hv' hH' h
          refine .add (by rfl) (by omega) ?_
          refine hL (j - 1) _ _ (by omega) ⟨1, v', H', by omega, rfl, hv', fun e => hH' (hH e) (by rw [List.length_eq_zero_iff.1 (show ps.length = 0 by omega)]; rfl), h⟩
        | 1, j1 =>
          refine .lss ?_
          refine .condtt ?_
          refine .indexL (j := 1) rfl rfl ?_
          refine .loadPS hy ?_
          refine Tells.appendRowN (ys := qs.map pV) hv pVs_cells h (hy.under.elems h) (by rw [List.length_map, List.length_map]; simp only [pre2, room]; omega) (by omega) pVs_untag pVs_cells ?_
          intro v' H' m hv' hH' h
          refine .add (by rfl) (by omega) ?_
          refine hL (j - 1) _ _ (by omega) ⟨2, v', H', by omega, rfl, by show RowO v' H' 2 ((ps ++ qs).map pV); rw [List.map_append]; exact hv', fun e => hH' (hH e) (by rw [List.length_eq_zero_iff.1 (show qs.length = 0 by omega)]; rfl), h⟩
        | 2, j1 =>
          refine .lss ?_
          refine .condff ?_
          refine .blk ?_
          refine Tells.ret rfl rfl ?_
          intro m' hobj
          refine ⟨H, RowO.to hv pVs_cells fun e => hH ?_, h.objs hobj⟩
          have e1 : ps ++ qs = [] := by simpa [pre2] using e
          rw [← List.length_append, e1]; rfl
        | i + 3, j1 => omega
      · exact ⟨0, v, H, by omega, rfl, hv, hH, h⟩
    | i + 3, j1 => omega
  · exact ⟨0, by omega, rfl, h⟩

theorem RowR.under {r : AV} {H l : Heap} {ps : List (Int × Int)} (h : RowR r H 2 (ps.map pV)) : PSl r.untag (H ++ l) ps := by
  refine RowR.psl ?_
  rcases h with ⟨g, k, rfl, h1, h2⟩ | ⟨id, ver, cs, h1, rfl, h3⟩
  · exact .inl ⟨.shared, k, rfl, h1, h2⟩
  · exact .inr ⟨id, ver, cs, h1, rfl, h3⟩

theorem call33 {m : Mem} {l : Heap} {x y : AV} {ps qs : List (Int × Int)} (hx : PSl x l ps) (hy : PSl y l qs) (hl : ps.length + qs.length < 4294967296) (hs : Sep m l) :
    Tells (Am.Call T 33 [x, y] m) fun r m' => r.untag = r ∧ ∃ H, RowR r H 2 ((ofP (ps ++ qs)).map pV) ∧ Sep m' (H ++ l) := by
  refine Tells.fn 9 rfl F33_ok rfl ?_
  show Tells (S33 (Am.Call T) 9 m x y) _
  have h : Sep ⟨m.objs, none⟩ l := hs.objs rfl
  unfold S33 G33
  refine Tells.bsL hx.untag hy.untag hx.cell hy.cell ?_
  refine Tells.call (args := [.list .shared 1 [x, y]]) rfl (call68 hx hy hl h) ?_
  rintro r m ⟨H, hr, h⟩
  refine Tells.call (args := [r.untag]) (by simp) (call32 (hr.under (l := l)) (by rw [List.length_append]; exact hl) h) ?_
  rintro r m ⟨H2, hr, h⟩
  have h := Sep.right (Sep.hfront (l1 := H2) h)
  refine Tells.ret rfl rfl ?_
  intro m' hobj
  refine ⟨by rcases hr with ⟨g, k, rfl, _⟩ | ⟨id, ver, cs, _, rfl, _⟩ <;> rfl, H2, ?_, h.objs hobj⟩
  show RowR r.untag H2 2 _
  rcases hr with ⟨g, k, rfl, h1, h2⟩ | ⟨id, ver, cs, h1, rfl, h3⟩
  · exact .inl ⟨.shared, k, rfl, h1, h2⟩
  · exact .inr ⟨id, ver, cs, h1, rfl, h3⟩
end Go.Proofs.P17
