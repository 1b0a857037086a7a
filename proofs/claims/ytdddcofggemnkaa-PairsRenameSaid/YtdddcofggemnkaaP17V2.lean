/- The walk through Collect. -/
import Derived.Test.YtdddcofggemnkaaP17V1
import Derived.KernelRfl
namespace Go.Proofs.P17
set_option linter.all false
open Go Go.Am
attribute [local irreducible] loadK storeK newK boxK tipK makeMapK buildTK buildK buildSliceK nilK binK unK condK convK eqvK pickK gK gDK vK extractK fieldK lookupK mapUpdateK appendK min2K max2K retK makeSliceK freezeK bytesK loopV blkK stayK sameK rangeK callK aFieldAddr aIndexAddr aIndexAddrA aLen aIndex aSlice

theorem ev86_0 {n : Nat} {kn : KN} {kx : KX} {y0 y1 y2 : AV} {m : Mem} : evK (Am.Call T) n b86_0 [(7, y0), (2, y1), (4, y2)] m kn kx = S86_0 (Am.Call T) n kn kx y0 y1 y2 m :=
  Eq.mp (by kernel_rfl) (show d86_0 (Am.Call T) n kn kx y0 y1 y2 m = S86_0 (Am.Call T) n kn kx y0 y1 y2 m by rw [l86_0])
theorem ev86_1 {n : Nat} {kn : KN} {kx : KX} {y0 y1 : AV} {m : Mem} : evK (Am.Call T) n b86_1 [(2, y0), (5, y1)] m kn kx = S86_1 (Am.Call T) n kn kx y0 y1 m :=
  Eq.mp (by kernel_rfl) (show d86_1 (Am.Call T) n kn kx y0 y1 m = S86_1 (Am.Call T) n kn kx y0 y1 m by rw [l86_1])

/-- A slice that has been made: nothing, or a row of its own. -/
def RowR (x : AV) (H : Heap) (n : Nat) (es : List AV) : Prop := (∃ g k, x = .list g k [] ∧ es = [] ∧ H = []) ∨
  ∃ id ver cs, unitOf ver = n ∧ x = .ref id ver 0 es.length ∧ H = [(id, .row ver cs)] ∧ cs.take (es.length * n) = flat es ∧ es.length * n ≤ cs.length ∧ 0 < es.length
theorem RowO.to {v : AV} {H : Heap} {n : Nat} {es : List AV} (h : RowO v H n es) (he : ∀ x ∈ es, x.cells.length = n) (h0 : es = [] → H = []) : RowR v.untag H n es := by
  rcases h with ⟨k, rfl, rfl, rfl⟩ | ⟨id, ver, hu, rfl, rfl⟩
  · exact .inl ⟨.shared, k, rfl, rfl, rfl⟩
  · refine .inr ⟨id, ver, flat es, hu, rfl, rfl, ?_, by rw [flatW_len he]; exact Nat.le_refl _, ?_⟩
    · rw [← flatW_len he]; exact List.take_length
    · cases es with
      | nil => exact absurd (h0 rfl) (by simp)
      | cons => simp
theorem RowO.untag {v : AV} {H : Heap} {n : Nat} {es : List AV} (h : RowO v H n es) : v.untag = v ∨ ∃ k, v = .list .full k [] := by
  rcases h with ⟨k, rfl, _, _⟩ | ⟨id, ver, _, rfl, _⟩
  · exact .inr ⟨k, rfl⟩
  · exact .inl rfl
theorem RowO.cell {v : AV} {H : Heap} {n : Nat} {es : List AV} (h : RowO v H n es) : v.cells = [v] ∧ v.solid = true := by
  rcases h with ⟨k, rfl, _, _⟩ | ⟨id, ver, _, rfl, _⟩ <;> exact ⟨rfl, rfl⟩
theorem pVs_cells {l : List (Int × Int)} : ∀ x ∈ l.map pV, x.cells.length = 2 := by
  intro x hx
  obtain ⟨p, _, rfl⟩ := List.mem_map.1 hx
  rfl
theorem goods_len {ps : List (Int × Int)} : (goods ps).length ≤ ps.length := by
  unfold goods
  exact Nat.le_trans (List.length_filter_le _ _) (by simp)

set_option maxHeartbeats 4000000 in
theorem call86 {m : Mem} {fr : Heap} {v : AV} {c : Nat} {ps : List (Int × Int)} (hv : IsPs v ps) (hlen : ps.length < 4294967296) (hs : Sep m ((c, .row 0 [v]) :: fr)) :
    Tells (Am.Call T 86 [.list .full 0 [], .func 85 [] [.ptr c 0 0]] m) fun x m' => ∃ H, RowR x H 2 ((goods ps).map pV) ∧ Sep m' (H ++ fr) := by
  refine Tells.fn 9 rfl F86_ok rfl ?_
  show Tells (S86 (Am.Call T) 9 m (.list .full 0 []) (.func 85 [] [.ptr c 0 0])) _
  have h : Sep ⟨m.objs, none⟩ ((c, .row 0 [v]) :: fr) := hs.objs rfl
  unfold S86 G86
  refine .box1 ‹_› (by rfl) (by rfl) ?_
  intro nw m h
  refine Tells.range h ?_
  intro y m h
  refine (call85 (J := fun d l => ∃ x H, RowO x H 2 (d.map pV) ∧ (d = [] → H = []) ∧ l = (y, .loop [7] b86_0 b86_1 [(2, .ptr nw 0 0), (4, .list .full 2 [])] .ready) :: (nw, .row 0 [x]) :: (c, .row 0 [v]) :: (H ++ fr)) (Js := fun _ => False)
    hv (by omega) ?_ ?_ ⟨_, [], RowO.nil, fun _ => rfl, rfl⟩ h).imp ?_
  · rintro d l ⟨x, H, _, _, rfl⟩
    exact .s (.s .z)
  · rintro d p l m hpre ⟨x, H, hx, _, rfl⟩ h
    have hd : d.length < ps.length := by
      have h1 := hpre.length_le
      have h2 := goods_len (ps := ps)
      simp at h1
      omega
    refine Tells.round (n := 9) T_yb (h.get .z) rfl ?_
    show Tells (evK (Am.Call T) 9 b86_0 [(7, pV p), (2, .ptr nw 0 0), (4, .list .full 2 [])] m _ _) _
    rw [ev86_0]
    unfold S86_0 G86_0
    generalize hq : nw = q at *
    refine .new ‹_› ?_
    intro nw m h
    refine .storeA ‹_› .z (by rfl) (by rfl) ?_
    intro m h
    refine tells_asN ⟨h.get (.s .z), ?_⟩
    rw [ev86_1]
    unfold S86_1 G86_1
    have h := h.mark (o' := .loop [7] b86_0 b86_1 [(2, .ptr q 0 0), (4, .list .full 2 [])] .busy) (.s .z)
    refine .load1 ‹_› (.s (.s .z)) (by rfl) ?_
    refine .loadA ‹_› .z (by rfl) ?_
    refine .bsA (by rfl) (by rfl) (by rfl) (by decide) (by decide) ?_
    have h := Sep.hfront (l1 := [_, _, _, _]) h
    refine Tells.appendRow hx pVs_cells h (by rw [List.length_map]; unfold room; omega) (by omega) rfl rfl ?_
    intro v' H' m hx' h
    obtain ⟨hc1, hc2⟩ := RowO.cell hx'
    have h := Sep.hfront (l1 := H') (H := [_, _, _, _]) h
    refine Tells.store1 h (.s (.s .z)) hc1 hc2 ?_
    intro m h
    refine tells_asN ⟨h.get (.s .z), .inl ⟨rfl, _, ⟨v', H', ?_, fun e => by simp at e, rfl⟩, (h.mark (.s .z)).tail⟩⟩
    rw [List.map_append]
    exact hx'
  · rintro _ m (⟨l', ⟨x, H, hx, hx0, rfl⟩, h⟩ | ⟨_, h, _⟩)
    · refine .inl ⟨_, _, _, _, h.get .z, ?_⟩
      have h := h.mark (o' := .gone) .z
      refine .load1 ‹_› (.s .z) (by rfl) ?_
      refine Tells.ret rfl rfl ?_
      intro m' hobj
      exact ⟨H, RowO.to hx pVs_cells fun e => hx0 (by simpa using e), (Sep.right (H := [_, _, _]) (h.objs hobj))⟩
    · exact h.elim
end Go.Proofs.P17
