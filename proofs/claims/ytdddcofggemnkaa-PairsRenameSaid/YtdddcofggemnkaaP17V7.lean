/- The walk through the renaming of pairs. -/
import Derived.Test.YtdddcofggemnkaaP17V6
namespace Go.Proofs.P17
set_option linter.all false
open Go Go.Am
attribute [local irreducible] loadK storeK newK boxK tipK makeMapK buildTK buildK buildSliceK nilK binK unK condK convK eqvK pickK gK gDK vK extractK fieldK lookupK mapUpdateK appendK min2K max2K retK makeSliceK freezeK bytesK loopV blkK stayK sameK rangeK callK aFieldAddr aIndexAddr aIndexAddrA aLen aIndex aSlice

theorem ev29_0 {n : Nat} {kn : KN} {kx : KX} {y0 y1 y2 y3 : AV} {m : Mem} : evK (Am.Call T) n b29_0 [(9, y0), (3, y1), (4, y2), (5, y3)] m kn kx = S29_0 (Am.Call T) n kn kx y0 y1 y2 y3 m :=
  Eq.mp (by kernel_rfl) (show d29_0 (Am.Call T) n kn kx y0 y1 y2 y3 m = S29_0 (Am.Call T) n kn kx y0 y1 y2 y3 m by rw [l29_0])
theorem ev29_2 {n : Nat} {kn : KN} {kx : KX} {y0 y1 y2 : AV} {m : Mem} : evK (Am.Call T) n b29_2 [(3, y0), (5, y1), (6, y2)] m kn kx = S29_2 (Am.Call T) n kn kx y0 y1 y2 m :=
  Eq.mp (by kernel_rfl) (show d29_2 (Am.Call T) n kn kx y0 y1 y2 m = S29_2 (Am.Call T) n kn kx y0 y1 y2 m by rw [l29_2])

def renP (zs : List Int) (p : Int × Int) : List (Int × Int) := if p.2 < zs.length then [((zs[p.1.toNat]?).getD 0, (zs[p.2.toNat]?).getD 0)] else []
def renL (zs : List Int) (ps : List (Int × Int)) : List (Int × Int) := (goods ps).flatMap (renP zs)

theorem goods_mem {ps : List (Int × Int)} {p : Int × Int} : p ∈ goods ps ↔ ∃ q ∈ ps, p = (min q.1 q.2, max q.1 q.2) ∧ 0 ≤ p.1 ∧ p.1 < p.2 := by
  unfold goods
  rw [List.mem_filter, List.mem_map]
  constructor
  · rintro ⟨⟨q, hq, rfl⟩, h⟩
    refine ⟨q, hq, rfl, ?_⟩
    have h := Bool.and_eq_true_iff.1 h
    have h1 := of_decide_eq_true h.1
    have h2 := of_decide_eq_true h.2
    refine ⟨h1, ?_⟩
    show min q.1 q.2 < max q.1 q.2
    replace h2 : min q.1 q.2 ≠ max q.1 q.2 := h2
    omega
  · rintro ⟨q, hq, rfl, h1, h2⟩
    refine ⟨⟨q, hq, rfl⟩, ?_⟩
    exact Bool.and_eq_true_iff.2 ⟨decide_eq_true h1, decide_eq_true (Int.ne_of_lt h2)⟩
theorem renL_len {zs : List Int} {d : List (Int × Int)} : (d.flatMap (renP zs)).length ≤ d.length := by
  induction d with
  | nil => exact Nat.le_refl _
  | cons p d ih =>
    simp only [List.flatMap_cons, List.length_append, List.length_cons]
    have : (renP zs p).length ≤ 1 := by unfold renP; split <;> simp
    omega

/-- A list that grows. -/
def OwnP (v : AV) (H : Heap) (es : List (Int × Int)) : Prop := ∃ g k, v = .list g k (es.map pV) ∧ OwnT g H es.length ∧ (k = 2 ∨ es = [])

set_option maxHeartbeats 8000000 in
theorem call29 {m : Mem} {fr : Heap} {v w : AV} {ps : List (Int × Int)} {zs : List Int} (hv : IsPs v ps) (hw : IsZs w zs) (hlen : ps.length < 4294967296) (hs : Sep m fr) :
    Tells (Am.Call T 29 [v, w] m) fun x m' => x.untag = x ∧ ∃ H, RowR x H 2 ((ofP (renL zs ps)).map pV) ∧ Sep m' (H ++ fr) := by
  have hvu : v.untag = v := by obtain ⟨k, rfl, _⟩ := hv; rfl
  obtain ⟨kw, rfl, hkw⟩ := hw
  have hlzz : (zs.map vZ).length = zs.length := List.length_map _
  refine Tells.fn 9 rfl F29_ok rfl ?_
  show Tells (S29 (Am.Call T) 9 m v (.list .shared kw (zs.map vZ))) _
  have h : Sep ⟨m.objs, none⟩ fr := hs.objs rfl
  unfold S29 G29
  refine Tells.box1 h rfl rfl ?_
  intro tc m h
  refine Tells.new h ?_
  intro oc m h
  refine Tells.call (args := [v]) (by simp [hvu]) (call61 hv h) ?_
  rintro _ m ⟨c, rfl, h⟩
  refine Tells.range h ?_
  intro y m h
  refine (call85 (J := fun d l => ∃ ov H, OwnP ov H (d.flatMap (renP zs)) ∧ l = (y, .loop [9] b29_0 b29_2 [(3, .ptr tc 0 0), (4, .list .full 2 []), (5, .ptr oc 0 0)] .ready) :: (c, .row 0 [v]) :: (oc, .row 0 [ov]) :: (tc, .row 0 [.list .shared kw (zs.map vZ)]) :: (H ++ fr)) (Js := fun _ => False)
    hv (by omega) ?_ ?_ ⟨.list .full 0 [], [], ⟨.full, 0, rfl, .inl ⟨rfl, rfl⟩, .inr rfl⟩, rfl⟩ h).imp ?_
  · rintro d l ⟨ov, H, _, rfl⟩
    exact .s .z
  · rintro d p l m hpre ⟨ov, H, ⟨g, k, rfl, how, hk⟩, rfl⟩ h
    have hd : d.length < ps.length := by
      have h1 := hpre.length_le
      have h2 := goods_len (ps := ps)
      simp at h1
      omega
    have hdl := renL_len (zs := zs) (d := d)
    obtain ⟨q, _, hpq, hp0, hp1⟩ := goods_mem.1 (hpre.subset (List.mem_append_right d (List.mem_singleton.2 rfl)))
    refine Tells.round (n := 9) T_yb (h.get .z) rfl ?_
    show Tells (evK (Am.Call T) 9 b29_0 [(9, pV p), (3, .ptr tc 0 0), (4, .list .full 2 []), (5, .ptr oc 0 0)] m _ _) _
    rw [ev29_0]
    unfold S29_0 G29_0
    refine .new ‹_› ?_
    intro nw m h
    refine .storeA ‹_› .z (by rfl) (by rfl) ?_
    intro m h
    refine tells_asN ⟨h.get (.s .z), ?_⟩
    rw [ev29_2]
    unfold S29_2 G29_2
    have h := h.mark (o' := .loop [9] b29_0 b29_2 [(3, .ptr tc 0 0), (4, .list .full 2 []), (5, .ptr oc 0 0)] .busy) (.s .z)
    by_cases hlt : p.2 < zs.length
    · obtain ⟨za, ha⟩ : ∃ z, zs[p.1.toNat]? = some z := ⟨_, List.getElem?_eq_getElem (by omega)⟩
      obtain ⟨zb, hb⟩ : ∃ z, zs[p.2.toNat]? = some z := ⟨_, List.getElem?_eq_getElem (by omega)⟩
      have hk1 : kw = 1 := hkw.resolve_right (by intro e; rw [e] at hlt; simp at hlt; omega)
      subst hk1
      have hga : (zs.map vZ)[p.1.toNat]? = some (vZ za) := by rw [List.getElem?_map, ha]; rfl
      have hgb : (zs.map vZ)[p.2.toNat]? = some (vZ zb) := by rw [List.getElem?_map, hb]; rfl
      have hren : renP zs p = [(za, zb)] := by unfold renP; rw [if_pos hlt, ha, hb]; rfl
      refine .indexA (j := 1) (by rfl) (by omega) ?_
      refine .load1 ‹_› .z (by rfl) ?_
      refine .load1 ‹_› (.s (.s (.s (.s .z)))) (by rfl) ?_
      refine .lenL ?_
      refine .lss ?_
      refine .condT (by first | assumption | omega) ?_
      refine .load1 ‹_› (.s (.s (.s .z))) (by rfl) ?_
      refine .load1 ‹_› (.s (.s (.s (.s .z)))) (by rfl) ?_
      refine .indexA (j := 0) (by rfl) (by omega) ?_
      refine .load1 ‹_› .z (by rfl) ?_
      refine .indexL (j := p.1.toNat) (by omega) hga ?_
      refine .loadC1 (by rfl) ?_
      refine .load1 ‹_› (.s (.s (.s (.s .z)))) (by rfl) ?_
      refine .indexA (j := 1) (by rfl) (by omega) ?_
      refine .load1 ‹_› .z (by rfl) ?_
      refine .indexL (j := p.2.toNat) (by omega) hgb ?_
      refine .loadC1 (by rfl) ?_
      refine .build2 ?_
      refine .bsA (by rfl) (by rfl) (by rfl) (by decide) (by decide) ?_
      have h := Sep.hfront (l1 := [_, _, _, _, _]) h
      refine Tells.appendO (n := 2) (y := pV (za, zb)) (by rw [List.length_map]; exact how) h (by rcases hk with rfl | hk; exact .inl rfl; exact .inr (by rw [hk]; rfl)) ⟨by rw [List.length_map]; simp only [room]; omega, by rw [List.length_map]; simp only [room]; omega⟩ (by omega) rfl rfl ?_
      intro g' H' m how' h
      rw [List.length_map] at how'
      have h := Sep.hfront (H := [_, _, _, _, _]) (l1 := H') (l2 := fr) h
      refine Tells.store1 h (.s (.s (.s .z))) rfl rfl ?_
      intro m h
      refine .stay (by first | exact stayK_nil | (repeat first | exact stayK_nil | refine stayK_cons ?_ ?_ | refine stayK_not ?_ | exact stayN_zero | refine stayN_succ (by rfl) (by first | exact Sep.load1 ‹_› (by first | exact .z | exact .s .z | exact .s (.s .z) | exact .s (.s (.s .z)) | exact .s (.s (.s (.s .z))) | exact .s (.s (.s (.s (.s .z)))) | exact .s (.s (.s (.s (.s (.s .z))))) | exact .s (.s (.s (.s (.s (.s (.s .z)))))) | exact .s (.s (.s (.s (.s (.s (.s (.s .z))))))) | exact .s (.s (.s (.s (.s (.s (.s (.s (.s .z)))))))) | exact .s (.s (.s (.s (.s (.s (.s (.s (.s (.s .z))))))))) | exact .s (.s (.s (.s (.s (.s (.s (.s (.s (.s (.s .z)))))))))) | exact .s (.s (.s (.s (.s (.s (.s (.s (.s (.s (.s (.s .z))))))))))) | exact .s (.s (.s (.s (.s (.s (.s (.s (.s (.s (.s (.s (.s .z))))))))))))) (by rfl) | exact Sep.loadA ‹_› (by first | exact .z | exact .s .z | exact .s (.s .z) | exact .s (.s (.s .z)) | exact .s (.s (.s (.s .z))) | exact .s (.s (.s (.s (.s .z)))) | exact .s (.s (.s (.s (.s (.s .z))))) | exact .s (.s (.s (.s (.s (.s (.s .z)))))) | exact .s (.s (.s (.s (.s (.s (.s (.s .z))))))) | exact .s (.s (.s (.s (.s (.s (.s (.s (.s .z)))))))) | exact .s (.s (.s (.s (.s (.s (.s (.s (.s (.s .z))))))))) | exact .s (.s (.s (.s (.s (.s (.s (.s (.s (.s (.s .z)))))))))) | exact .s (.s (.s (.s (.s (.s (.s (.s (.s (.s (.s (.s .z))))))))))) | exact .s (.s (.s (.s (.s (.s (.s (.s (.s (.s (.s (.s (.s .z))))))))))))) (by rfl) | rfl) ?_)) ?_
      refine tells_asN ⟨h.get (.s .z), .inl ⟨rfl, _, ⟨.list g' 2 ((d.flatMap (renP zs) ++ [(za, zb)]).map pV), H', ⟨g', 2, ?_, ?_, .inl rfl⟩, rfl⟩, ?_⟩⟩
      · rw [List.flatMap_append, List.flatMap_cons, List.flatMap_nil, List.append_nil, hren]
      · rw [List.flatMap_append, List.flatMap_cons, List.flatMap_nil, List.append_nil, hren, List.length_append]; exact how'
      · rw [List.map_append]; exact (h.mark (.s .z)).tail
    · have hren : renP zs p = [] := by unfold renP; rw [if_neg hlt]
      refine .indexA (j := 1) (by rfl) (by omega) ?_
      refine .load1 ‹_› .z (by rfl) ?_
      refine .load1 ‹_› (.s (.s (.s (.s .z)))) (by rfl) ?_
      refine .lenL ?_
      refine .lss ?_
      refine .condF (by first | assumption | omega) ?_
      skip
      refine tells_asN ⟨h.get (.s .z), .inl ⟨rfl, _, ⟨_, H, ⟨g, k, rfl, ?_, ?_⟩, rfl⟩, ?_⟩⟩
      · rw [List.flatMap_append, List.flatMap_cons, List.flatMap_nil, List.append_nil, hren, List.append_nil]; exact how
      · rw [List.flatMap_append, List.flatMap_cons, List.flatMap_nil, List.append_nil, hren, List.append_nil]; exact hk
      · rw [List.flatMap_append, List.flatMap_cons, List.flatMap_nil, List.append_nil, hren, List.append_nil]; exact (h.mark (.s .z)).tail
  · rintro _ m (⟨l', ⟨ov, H, ⟨g, k, rfl, how, hk⟩, rfl⟩, h⟩ | ⟨_, h, _⟩)
    · refine .inl ⟨_, _, _, _, h.get .z, ?_⟩
      have h := h.mark (o' := .gone) .z
      unfold S29_3 G29_3
      refine Tells.load1 h (.s (.s .z)) rfl ?_
      have h := h.tail.tail.tail.tail.right
      have hgl := goods_len (ps := ps)
      have hrl := renL_len (zs := zs) (d := goods ps)
      refine Tells.call (args := [.list .shared k ((renL zs ps).map pV)]) rfl (call32 ⟨k, rfl, by rcases hk with hk | hk; exact .inl hk; exact .inr hk⟩ (by unfold renL; omega) h) ?_
      rintro x m ⟨H2, hx, h⟩
      refine Tells.ret rfl rfl ?_
      intro m' hobj
      refine ⟨by rcases hx with ⟨g, k, rfl, _⟩ | ⟨id, ver, cs, _, rfl, _⟩ <;> rfl, H2, ?_, h.objs hobj⟩
      show RowR x.untag H2 2 _
      rcases hx with ⟨g, k, rfl, h1, h2⟩ | ⟨id, ver, cs, h1, rfl, h3⟩
      · exact .inl ⟨.shared, k, rfl, h1, h2⟩
      · exact .inr ⟨id, ver, cs, h1, rfl, h3⟩
    · exact h.elim
end Go.Proofs.P17
