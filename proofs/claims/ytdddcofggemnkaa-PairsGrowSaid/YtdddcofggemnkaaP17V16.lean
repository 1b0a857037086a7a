/- The walk through closing pairs. -/
import Derived.Test.YtdddcofggemnkaaP17V14
namespace Go.Proofs.P17
set_option linter.all false
open Go Go.Am
attribute [local irreducible] loadK storeK newK boxK tipK makeMapK buildTK buildK buildSliceK nilK binK unK condK convK eqvK pickK gK gDK vK extractK fieldK lookupK mapUpdateK appendK min2K max2K retK makeSliceK freezeK bytesK loopV blkK stayK sameK rangeK callK aFieldAddr aIndexAddr aIndexAddrA aLen aIndex aSlice

theorem cloTo_len {zs : List Int} : ∀ {i : Nat}, (cloTo zs i).length ≤ i * zs.length
  | 0 => by simp [cloTo]
  | i + 1 => by
    have := cloTo_len (zs := zs) (i := i)
    rw [cloTo, List.length_append, List.length_map, List.length_take, Nat.add_mul]
    omega
theorem Tells.sliceL {m : Mem} {P : AV → Mem → Prop} {g : Tag} {n k' j : Nat} {xs : List AV} {kd : IntKind} {i : Int} (hi : i = j) (hj : j ≤ xs.length) (hn : 0 < n) (hk' : n = k' ∨ xs = []) {k : KV} (hk : Tells (k (.list .shared k' (xs.take j)) m) P) : Tells (Am.vK (aSlice n (.list g k' xs) none (some (.int kd i))) m k) P := by
  refine Tells.of_eq ?_ hk
  subst hi
  simp only [aSlice, bound]
  rw [if_pos ⟨by omega, by omega⟩]
  simp only [Int.toNat_natCast]
  rw [if_pos ⟨hk', hn⟩]
  simp only [List.drop_zero, Am.vK]
theorem RowO.unR {v : AV} {H : Heap} {n : Nat} {es : List AV} (h : RowO v H n es) : v.untag.untag = v.untag := by
  rcases h with ⟨k, rfl, _⟩ | ⟨id, ver, _, rfl, _⟩ <;> rfl

set_option maxHeartbeats 8000000 in
theorem call34 {m : Mem} {l : Heap} {v w : AV} {ps : List (Int × Int)} {zs : List Int} (hv : PSl v l ps) (hw : IsZs w zs) (hl : ps.length ≤ 1000000) (hlz : zs.length ≤ 40) (hs : Sep m l) :
    Tells (Am.Call T 34 [v, w] m) fun r m' => r.untag = r ∧ ∃ H, RowR r H 2 ((ofP (ps ++ cloL zs)).map pV) ∧ Sep m' (H ++ l) := by
  obtain ⟨kw, rfl, hkw⟩ := hw
  have hlw : (zs.map vZ).length = zs.length := List.length_map _
  refine Tells.fn (zs.length + 2) rfl F34_ok rfl ?_
  show Tells (S34 (Am.Call T) (zs.length + 2) m v (.list .shared kw (zs.map vZ))) _
  have h : Sep ⟨m.objs, none⟩ l := hs.objs rfl
  unfold S34 G34
  refine Tells.call (args := [v]) (by simp [hv.untag]) (call69 hv (by omega) h) ?_
  rintro v0 m ⟨H0, hv0, hH0, h⟩
  refine Tells.lenL ?_
  rw [hlw]
  refine Tells.loop (fun j vs m => ∃ (i : Nat) (v : AV) (H : Heap), i + j = zs.length ∧ vs = [.list .shared kw (zs.map vZ), v, .list .shared kw (zs.map vZ), vI zs.length, vI i] ∧ RowO v H 2 ((ps ++ cloTo zs i).map pV) ∧ (ps ++ cloTo zs i = [] → H = []) ∧ Sep m (H ++ l)) ?_ (i := zs.length) (by omega) ?_
  · rintro jo vs m L2 ⟨i, v, H, jo1, rfl, hv, hH, h⟩ hL
    have hcl := cloTo_len (zs := zs) (i := i)
    have hcl2 : i * zs.length ≤ 40 * 40 := Nat.mul_le_mul (by omega) hlz
    unfold S34_4 G34_4
    by_cases hi : i < zs.length
    · obtain ⟨a, ha⟩ : ∃ a, zs[i]? = some a := ⟨_, List.getElem?_eq_getElem hi⟩
      have hga : (zs.map vZ)[i]? = some (vZ a) := by rw [List.getElem?_map, ha]; rfl
      have hk1 : kw = 1 := hkw.resolve_right (by intro e; rw [e] at hi; simp at hi)
      subst hk1
      refine .lss ?_
      refine .condT (by first | assumption | omega) ?_
      unfold S34_3 G34_3
      refine Tells.indexL (j := i) rfl hga ?_
      refine .loadC1 (by rfl) ?_
      refine Tells.sliceL (j := i) rfl (by rw [hlw]; omega) (by omega) (.inl rfl) ?_
      refine Tells.lenL ?_
      have hlt : ((zs.map vZ).take i).length = i := by rw [List.length_take, hlw]; omega
      rw [hlt]
      refine Tells.loop (fun j vs m => ∃ (q : Nat) (v : AV) (H : Heap), q + j = i ∧ vs = [.list .shared 1 (zs.map vZ), v, vZ a, .list .shared 1 (zs.map vZ), vI zs.length, vI i, .list .shared 1 ((zs.map vZ).take i), vI i, vI q] ∧ RowO v H 2 ((ps ++ cloTo zs i ++ (zs.take q).map fun y => (a, y)).map pV) ∧ (ps ++ cloTo zs i ++ ((zs.take q).map fun y => (a, y)) = [] → H = []) ∧ Sep m (H ++ l)) ?_ (i := i) (by omega) ?_
      · rintro j vs m L3 ⟨q, v, H, j1, rfl, hv, hH, h⟩ hL3
        unfold S34_1 G34_1
        by_cases hq : q < i
        · obtain ⟨b, hb⟩ : ∃ b, zs[q]? = some b := ⟨_, List.getElem?_eq_getElem (by omega)⟩
          have hgb : ((zs.map vZ).take i)[q]? = some (vZ b) := by rw [List.getElem?_take, if_pos hq, List.getElem?_map, hb]; rfl
          have htk : ((zs.take (q + 1)).map fun y => (a, y)) = ((zs.take q).map fun y => (a, y)) ++ [(a, b)] := by rw [List.take_add_one, hb, List.map_append]; rfl
          refine .lss ?_
          refine .condT (by first | assumption | omega) ?_
          unfold S34_0 G34_0
          refine Tells.indexL (j := q) rfl hgb ?_
          refine .loadC1 (by rfl) ?_
          refine .build2 ?_
          refine .bsA (by rfl) (by rfl) (by rfl) (by decide) (by decide) ?_
          refine Tells.appendRow hv pVs_cells h (by simp only [List.length_map, List.length_append, List.length_take]; unfold room; omega) (by omega) rfl rfl ?_
          intro v' H' m hv' h
          refine .add (by rfl) (by omega) ?_
          refine hL3 (j - 1) _ _ (by omega) ⟨q + 1, v', H', by omega, rfl, ?_, fun e => ?_, h⟩
          · rw [htk, ← List.append_assoc, List.map_append (l₁ := ps ++ cloTo zs i ++ _)]; exact hv'
          · rw [htk, ← List.append_assoc] at e; simp at e
        · have hqe : q = i := by omega
          subst hqe
          refine .lss ?_
          refine .condF (by first | assumption | omega) ?_
          refine .blk ?_
          refine .add (by rfl) (by omega) ?_
          have hct : ps ++ cloTo zs (q + 1) = ps ++ cloTo zs q ++ (zs.take q).map fun y => (a, y) := by rw [cloTo, ha, List.append_assoc]; rfl
          exact hL (jo - 1) _ _ (by omega) ⟨q + 1, v, H, by omega, rfl, by rw [hct]; exact hv, by rw [hct]; exact hH, h⟩
      · exact ⟨0, v, H, by omega, rfl, by simpa using hv, by simpa using hH, h⟩
    · have hi : i = zs.length := by omega
      subst hi
      refine .lss ?_
      refine .condF (by first | assumption | omega) ?_
      refine .blk ?_
      unfold S34_5 G34_5
      have hr := RowO.to hv pVs_cells fun e => hH (by simpa using e)
      have hps := hr.psl' (l := l) (RowO.unR hv)
      refine Tells.call (args := [v.untag]) rfl (call32 hps (by rw [List.length_append]; omega) h) ?_
      rintro r m ⟨H2, hr2, h⟩
      refine Tells.ret rfl rfl ?_
      intro m hobj
      refine ⟨hr2.uu, H2, hr2.un, Am.Sep.right (Am.Sep.hfront (l1 := H2) (h.objs hobj))⟩
  · exact ⟨0, v0, H0, by omega, rfl, by simpa [cloTo] using hv0, by simpa [cloTo] using hH0, h⟩
end Go.Proofs.P17
namespace Go.Proofs.P17
set_option linter.all false
open Go Go.Am
attribute [local irreducible] loadK storeK newK boxK tipK makeMapK buildTK buildK buildSliceK nilK binK unK condK convK eqvK pickK gK gDK vK extractK fieldK lookupK mapUpdateK appendK min2K max2K retK makeSliceK freezeK bytesK loopV blkK stayK sameK rangeK callK aFieldAddr aIndexAddr aIndexAddrA aLen aIndex aSlice

theorem ev36_0 {n : Nat} {kn : KN} {kx : KX} {y0 y1 y2 y3 : AV} {m : Mem} : evK (Am.Call T) n b36_0 [(14, y0), (4, y1), (5, y2), (6, y3)] m kn kx = S36_0 (Am.Call T) n kn kx y0 y1 y2 y3 m :=
  Eq.mp (by kernel_rfl) (show d36_0 (Am.Call T) n kn kx y0 y1 y2 y3 m = S36_0 (Am.Call T) n kn kx y0 y1 y2 y3 m by rw [l36_0])
theorem ev36_1 {n : Nat} {kn : KN} {kx : KX} {y0 y1 y2 : AV} {m : Mem} : evK (Am.Call T) n b36_1 [(5, y0), (6, y1), (7, y2)] m kn kx = S36_1 (Am.Call T) n kn kx y0 y1 y2 m :=
  Eq.mp (by kernel_rfl) (show d36_1 (Am.Call T) n kn kx y0 y1 y2 m = S36_1 (Am.Call T) n kn kx y0 y1 y2 m by rw [l36_1])
theorem ev42_0 {n : Nat} {kn : KN} {kx : KX} {y0 y1 y2 : AV} {m : Mem} : evK (Am.Call T) n b42_0 [(18, y0), (6, y1), (7, y2)] m kn kx = S42_0 (Am.Call T) n kn kx y0 y1 y2 m :=
  Eq.mp (by kernel_rfl) (show d42_0 (Am.Call T) n kn kx y0 y1 y2 m = S42_0 (Am.Call T) n kn kx y0 y1 y2 m by rw [l42_0])
theorem ev42_1 {n : Nat} {kn : KN} {kx : KX} {y0 y1 y2 : AV} {m : Mem} : evK (Am.Call T) n b42_1 [(6, y0), (7, y1), (8, y2)] m kn kx = S42_1 (Am.Call T) n kn kx y0 y1 y2 m :=
  Eq.mp (by kernel_rfl) (show d42_1 (Am.Call T) n kn kx y0 y1 y2 m = S42_1 (Am.Call T) n kn kx y0 y1 y2 m by rw [l42_1])

theorem relP_len {own : List Int} {d : List (Int × Int)} : (d.flatMap (relP own)).length ≤ d.length * 2 := by
  induction d with
  | nil => exact Nat.le_refl _
  | cons p d ih =>
    simp only [List.flatMap_cons, List.length_append, List.length_cons]
    have : (relP own p).length ≤ 2 := by unfold relP; split <;> simp
    omega
theorem relP_t {own : List Int} {p : Int × Int} (h : (own.contains p.1 || own.contains p.2) = true) : relP own p = [p.1, p.2] := by rw [relP, if_pos h]
theorem relP_f {own : List Int} {p : Int × Int} (h : (own.contains p.1 || own.contains p.2) = false) : relP own p = [] := by rw [relP, if_neg (by rw [h]; simp)]

set_option maxHeartbeats 8000000 in
theorem call36 {m : Mem} {l : Heap} {v w : AV} {ps : List (Int × Int)} {zs : List Int} (hv : PSl v l ps) (hw : ISl w l zs) (hl : ps.length ≤ 1000000) (hlz : zs.length ≤ 1000000) (hs : Sep m l) :
    Tells (Am.Call T 36 [v, w] m) fun r m' => r.untag = r ∧ ∃ H, RowR r H 1 ((relL ps zs).map vZ) ∧ Sep m' (H ++ l) := by
  have hpl := plcL_len (zs := zs)
  refine Tells.fn 9 rfl F36_ok rfl ?_
  show Tells (S36 (Am.Call T) 9 m v w) _
  have h : Sep ⟨m.objs, none⟩ l := hs.objs rfl
  unfold S36 G36
  refine Tells.call (args := [w]) (by simp [hw.untag]) (call37 hw (by omega) h) ?_
  rintro r m ⟨hru, H, hr, h⟩
  obtain ⟨hc1, hc2⟩ := hr.cell
  refine Tells.new h ?_
  intro oc m h
  refine Tells.store1 h .z hc1 hc2 ?_
  intro m h
  refine Tells.load1 h .z rfl ?_
  have hri : ISl r (H ++ l) (plcL zs) := hr.isl hru
  refine Tells.call (args := [r]) (by simp [hru]) (call72 hri.skip (by omega) h) ?_
  rintro q m ⟨H2, hq, hH2, h⟩
  obtain ⟨qc1, qc2⟩ := RowO.cell hq
  have hqr := RowO.to hq vZs_cells fun e => hH2 (by simpa using e)
  have hqi : ∀ lr, ISl q.untag (H2 ++ lr) (plcL zs) := fun lr => hqr.isl (RowO.unR hq)
  refine Tells.new h ?_
  intro nc m h
  refine Tells.store1 h .z qc1 qc2 ?_
  intro m h
  have h := Am.Sep.hfront (l1 := [_]) h
  have h : Sep m (H2 ++ ((nc, .row 0 [q]) :: (oc, .row 0 [r]) :: (H ++ l))) := h
  have h := Am.Sep.hfront (l1 := []) h
  have hvl : PSl v ((nc, .row 0 [q]) :: (oc, .row 0 [r]) :: (H2 ++ (H ++ l))) ps := hv.under.under.skip.skip
  replace h : Sep m ((nc, .row 0 [q]) :: (oc, .row 0 [r]) :: (H2 ++ (H ++ l))) := by
    refine h.perm ?_
    exact List.perm_append_comm_assoc H2 [(nc, AObj.row 0 [q]), (oc, AObj.row 0 [r])] (H ++ l)
  refine Tells.call (args := [v]) (by simp [hv.untag]) (call61 hvl h) ?_
  rintro _ m ⟨c, rfl, h⟩
  refine Tells.range h ?_
  intro y m h
  refine (call85 (v := v) (ps := ps) (J := fun d lh => ∃ ov Ho, RowR ov Ho 1 ((plcL zs ++ d.flatMap (relP (plcL zs))).map vZ) ∧ lh = (y, .loop [14] b36_0 b36_1 [(4, .list .full 1 []), (5, .ptr oc 0 0), (6, .ptr nc 0 0)] .ready) :: (c, .row 0 [v]) :: (nc, .row 0 [q]) :: (oc, .row 0 [ov]) :: (H2 ++ (Ho ++ l))) (Js := fun _ => False)
    (by omega) ?_ ?_ ⟨r, H, by simpa using hr, rfl⟩ h).imp ?_
  · rintro d lh ⟨ov, Ho, _, rfl⟩
    exact ⟨.s .z, hv.under.under.skip.skip.skip.skip⟩
  · rintro d p lh m hpre ⟨ov, Ho, hov, rfl⟩ h
    have hd : d.length < ps.length := by
      have h1 := hpre.length_le
      have h2 := goods_len (ps := ps)
      simp at h1
      omega
    have hdl := relP_len (own := plcL zs) (d := d)
    refine Tells.round (n := 9) T_yb (h.get .z) rfl ?_
    show Tells (evK (Am.Call T) 9 b36_0 [(14, pV p), (4, .list .full 1 []), (5, .ptr oc 0 0), (6, .ptr nc 0 0)] m _ _) _
    rw [ev36_0]
    unfold S36_0 G36_0
    refine .new ‹_› ?_
    intro nw m h
    refine .storeA ‹_› .z (by rfl) (by rfl) ?_
    intro m h
    refine tells_asN ⟨h.get (.s .z), ?_⟩
    rw [ev36_1]
    unfold S36_1 G36_1
    have h := h.mark (o' := .loop [14] b36_0 b36_1 [(4, .list .full 1 []), (5, .ptr oc 0 0), (6, .ptr nc 0 0)] .busy) (.s .z)
    have hql : ISl q.untag ((nw, .row 0 [vZ p.1, vZ p.2]) :: (y, .loop [14] b36_0 b36_1 [(4, .list .full 1 []), (5, .ptr oc 0 0), (6, .ptr nc 0 0)] .busy) :: (c, .row 0 [v]) :: (nc, .row 0 [q]) :: (oc, .row 0 [ov]) :: (H2 ++ (Ho ++ l))) (plcL zs) := (hqi _).skip.skip.skip.skip.skip
    have fin : ∀ {m : Mem}, relP (plcL zs) p = [] → Sep m ((nw, .row 0 [vZ p.1, vZ p.2]) :: (y, .loop [14] b36_0 b36_1 [(4, .list .full 1 []), (5, .ptr oc 0 0), (6, .ptr nc 0 0)] .busy) :: (c, .row 0 [v]) :: (nc, .row 0 [q]) :: (oc, .row 0 [ov]) :: (H2 ++ (Ho ++ l))) →
        ∃ l', (∃ ov Ho, RowR ov Ho 1 ((plcL zs ++ (d ++ [p]).flatMap (relP (plcL zs))).map vZ) ∧ l' = (y, .loop [14] b36_0 b36_1 [(4, .list .full 1 []), (5, .ptr oc 0 0), (6, .ptr nc 0 0)] .ready) :: (c, .row 0 [v]) :: (nc, .row 0 [q]) :: (oc, .row 0 [ov]) :: (H2 ++ (Ho ++ l))) ∧ Sep (m.mark y (.loop [14] b36_0 b36_1 [(4, .list .full 1 []), (5, .ptr oc 0 0), (6, .ptr nc 0 0)] .ready)) l' := fun e h =>
      ⟨_, ⟨ov, Ho, by rw [List.flatMap_append, List.flatMap_cons, List.flatMap_nil, List.append_nil, e, List.append_nil]; exact hov, rfl⟩, (h.mark (.s .z)).tail⟩
    have put : ∀ {m : Mem}, (relP (plcL zs) p = [p.1, p.2]) → plcL zs ≠ [] → Sep m ((nw, .row 0 [vZ p.1, vZ p.2]) :: (y, .loop [14] b36_0 b36_1 [(4, .list .full 1 []), (5, .ptr oc 0 0), (6, .ptr nc 0 0)] .busy) :: (c, .row 0 [v]) :: (nc, .row 0 [q]) :: (oc, .row 0 [ov]) :: (H2 ++ (Ho ++ l))) → ∀ {k : KV} {P : AV → Mem → Prop},
        (∀ ov' Ho' m, RowR ov' Ho' 1 ((plcL zs ++ (d ++ [p]).flatMap (relP (plcL zs))).map vZ) → Sep m ((nw, .row 0 [vZ p.1, vZ p.2]) :: (y, .loop [14] b36_0 b36_1 [(4, .list .full 1 []), (5, .ptr oc 0 0), (6, .ptr nc 0 0)] .busy) :: (c, .row 0 [v]) :: (nc, .row 0 [q]) :: (oc, .row 0 [ov]) :: (H2 ++ (Ho' ++ l))) → ov'.cells = [ov'] ∧ ov'.solid = true → Tells (k ov' m) P) →
        Tells (appendK 1 8 1 ov (.list .full 1 [vZ p.1, vZ p.2]) m k) P := by
      intro m e hne h k P hk
      have hov' := hov.rowA (by simpa using fun e => absurd e hne)
      have h := Am.Sep.hfront (l1 := [_, _, _, _, _] ++ H2) (by simpa using h)
      refine Tells.appendRowA (ys := [vZ p.1, vZ p.2]) hov' h (elems_lst (.inl rfl)) (by simp only [List.length_map, List.length_append, List.length_cons, List.length_nil]; unfold room; omega) (by omega) (by simp [AV.untag, AV.untag1]) (by simp [AV.cells]) ?_
      intro v' H' m hv' h
      have h := Am.Sep.hfront (l1 := H') (H := [_, _, _, _, _] ++ H2) h
      refine hk v' H' m ?_ (by simpa using h) hv'.cell
      rw [List.flatMap_append, List.flatMap_cons, List.flatMap_nil, List.append_nil, e, ← List.append_assoc, List.map_append]
      exact hv'.rowR (by simp)
    have ne1 : ∀ z, (plcL zs).contains z = true → plcL zs ≠ [] := fun z e e2 => by rw [e2] at e; simp at e
    refine Tells.load1 h (.s (.s (.s .z))) rfl ?_
    refine .indexA (j := 0) (by rfl) (by omega) ?_
    refine .load1 ‹_› .z (by rfl) ?_
    refine Tells.call (args := [q.untag, vZ p.1]) rfl (call49 hql (by omega) h) ?_
    rintro _ m ⟨rfl, h⟩
    cases q1 : (plcL zs).contains p.1 with
    | true =>
      have hrt := relP_t (own := plcL zs) (p := p) (by rw [q1, Bool.true_or])
      refine .gtf ?_
      refine .gtf ?_
      refine .gtf ?_
      refine .gtf ?_
      refine .picktt ?_
      refine .condtt ?_
      refine .load1 ‹_› (.s (.s (.s (.s .z)))) (by rfl) ?_
      refine .indexA (j := 0) (by rfl) (by omega) ?_
      refine .load1 ‹_› .z (by rfl) ?_
      refine .indexA (j := 1) (by rfl) (by omega) ?_
      refine .load1 ‹_› .z (by rfl) ?_
      refine .bs2 ?_
      refine put hrt (ne1 _ q1) h ?_
      intro ov' Ho' m hov' h hcc
      refine Tells.store1 h (.s (.s (.s (.s .z)))) hcc.1 hcc.2 ?_
      intro m h
      refine tells_asN ⟨h.get (.s .z), .inl ⟨rfl, _, ⟨ov', Ho', hov', rfl⟩, (h.mark (.s .z)).tail⟩⟩
    | false =>
      refine Tells.gff ?_
      refine Tells.load1 h (.s (.s (.s .z))) rfl ?_
      refine .gff ?_
      refine .indexA (j := 1) (by rfl) (by omega) ?_
      refine .gff ?_
      refine .load1 ‹_› .z (by rfl) ?_
      refine .gff ?_
      refine Tells.call (args := [q.untag, vZ p.2]) rfl (call49 hql (by omega) h) ?_
      rintro _ m ⟨rfl, h⟩
      cases q2 : (plcL zs).contains p.2 with
      | true =>
        have hrt := relP_t (own := plcL zs) (p := p) (by rw [q2, Bool.or_true])
        refine .pickff ?_
        refine .condtt ?_
        refine .load1 ‹_› (.s (.s (.s (.s .z)))) (by rfl) ?_
        refine .indexA (j := 0) (by rfl) (by omega) ?_
        refine .load1 ‹_› .z (by rfl) ?_
        refine .indexA (j := 1) (by rfl) (by omega) ?_
        refine .load1 ‹_› .z (by rfl) ?_
        refine .bs2 ?_
        refine put hrt (ne1 _ q2) h ?_
        intro ov' Ho' m hov' h hcc
        refine Tells.store1 h (.s (.s (.s (.s .z)))) hcc.1 hcc.2 ?_
        intro m h
        refine tells_asN ⟨h.get (.s .z), .inl ⟨rfl, _, ⟨ov', Ho', hov', rfl⟩, (h.mark (.s .z)).tail⟩⟩
      | false =>
        have hrt := relP_f (own := plcL zs) (p := p) (by rw [q1, q2]; rfl)
        refine .pickff ?_
        refine .condff ?_
        refine tells_asN ⟨h.get (.s .z), .inl ⟨rfl, fin hrt h⟩⟩
  · rintro _ m (⟨l', ⟨ov, Ho, hov, rfl⟩, h⟩ | ⟨_, h, _⟩)
    · refine .inl ⟨_, _, _, _, h.get .z, ?_⟩
      have h := h.mark (o' := .gone) .z
      have hgl := goods_len (ps := ps)
      have hrl := relP_len (own := plcL zs) (d := goods ps)
      obtain ⟨oc1, oc2⟩ := hov.cell
      refine .load1 ‹_› (.s (.s (.s .z))) (by rfl) ?_
      refine Tells.call (args := [ov.untag]) rfl (call37 (zs := plcL zs ++ (goods ps).flatMap (relP (plcL zs))) (l := (y, .gone) :: (c, .row 0 [v]) :: (nc, .row 0 [q]) :: (oc, .row 0 [ov]) :: (H2 ++ (Ho ++ l))) ((hov.un.isl hov.uu).under (H := H2)).skip.skip.skip.skip (by rw [List.length_append]; omega) h) ?_
      rintro r m ⟨hru, H3, hr, h⟩
      refine Tells.ret1 hru ?_
      intro m' hobj
      refine ⟨hru, H3, hr, ?_⟩
      have h := Am.Sep.hfront (l1 := H3) (H := [_, _, _, _] ++ (H2 ++ Ho)) (l2 := l) (by simpa using h.objs hobj)
      exact Am.Sep.right h
    · exact h.elim

set_option maxHeartbeats 8000000 in
theorem call42 {m : Mem} {l : Heap} {v : AV} {ps : List (Int × Int)} {a b : Int} (hv : PSl v l ps) (hl : ps.length < 4294967296) (hs : Sep m l) :
    Tells (Am.Call T 42 [v, .int .i64 a, .int .i64 b] m) fun r m' => r = .bool (hasR ps a b) ∧ Sep m' l := by
  refine Tells.fn 9 rfl F42_ok rfl ?_
  show Tells (S42 (Am.Call T) 9 m v (.int .i64 a) (.int .i64 b)) _
  have h : Sep ⟨m.objs, none⟩ l := hs.objs rfl
  unfold S42 G42
  refine Tells.new h ?_
  intro rc m h
  refine Tells.min2 (c := min a b) rfl ?_
  refine Tells.max2 (c := max a b) rfl ?_
  refine Tells.build2 ?_
  refine Tells.new h ?_
  intro wc m h
  refine Tells.storeA (n := 2) (xs := [vZ (min a b), vZ (max a b)]) h .z rfl rfl ?_
  intro m h
  refine Tells.call (args := [v]) (by simp [hv.untag]) (call61 hv.skip.skip h) ?_
  rintro _ m ⟨c, rfl, h⟩
  refine Tells.range h ?_
  intro y m h
  refine (call85 (v := v) (ps := ps) (J := fun d lh => (min a b, max a b) ∉ d ∧ lh = (y, .loop [18] b42_0 b42_1 [(6, .ptr rc 0 0), (7, .ptr wc 0 0)] .ready) :: (c, .row 0 [v]) :: (wc, .row 0 [vZ (min a b), vZ (max a b)]) :: (rc, .row 0 [.bool false]) :: l)
    (Js := fun lh => (min a b, max a b) ∈ goods ps ∧ lh = (y, .loop [18] b42_0 b42_1 [(6, .ptr rc 0 0), (7, .ptr wc 0 0)] (.done .ret)) :: (c, .row 0 [v]) :: (wc, .row 0 [vZ (min a b), vZ (max a b)]) :: (rc, .row 0 [.bool true]) :: l)
    (by omega) ?_ ?_ ⟨by simp, rfl⟩ h).imp ?_
  · rintro d lh ⟨_, rfl⟩
    exact ⟨.s .z, hv.skip.skip.skip.skip⟩
  · rintro d p lh m hpre ⟨hnot, rfl⟩ h
    refine Tells.round (n := 9) T_yb (h.get .z) rfl ?_
    show Tells (evK (Am.Call T) 9 b42_0 [(18, pV p), (6, .ptr rc 0 0), (7, .ptr wc 0 0)] m _ _) _
    rw [ev42_0]
    unfold S42_0 G42_0
    refine .new ‹_› ?_
    intro nw m h
    refine .storeA ‹_› .z (by rfl) (by rfl) ?_
    intro m h
    refine tells_asN ⟨h.get (.s .z), ?_⟩
    rw [ev42_1]
    unfold S42_1 G42_1
    have h := h.mark (o' := .loop [18] b42_0 b42_1 [(6, .ptr rc 0 0), (7, .ptr wc 0 0)] .busy) (.s .z)
    refine Tells.loadA h .z rfl ?_
    refine Tells.loadA h (.s (.s (.s .z))) rfl ?_
    refine Tells.eqPf (p := p) (q := (min a b, max a b)) ?_
    by_cases hpq : p = (min a b, max a b)
    · refine Tells.condT hpq ?_
      refine Tells.store1 h (.s (.s (.s (.s .z)))) rfl rfl ?_
      intro m h
      have hin : (min a b, max a b) ∈ goods ps := hpre.subset (List.mem_append_right d (by rw [hpq]; exact List.mem_singleton.2 rfl))
      refine tells_asX ⟨by simp, h.get (.s .z), .inr ⟨rfl, _, ⟨hin, rfl⟩, (h.mark (.s .z)).tail⟩⟩
    · refine Tells.condF hpq ?_
      refine tells_asN ⟨h.get (.s .z), .inl ⟨rfl, _, ⟨fun e => ?_, rfl⟩, (h.mark (.s .z)).tail⟩⟩
      rcases List.mem_append.1 e with e | e
      · exact hnot e
      · exact hpq (List.mem_singleton.1 e).symm
  · rintro _ m (⟨l', ⟨hnot, rfl⟩, h⟩ | ⟨l', ⟨hin, rfl⟩, h⟩)
    · refine .inl ⟨_, _, _, _, h.get .z, ?_⟩
      have h := h.mark (o' := .gone) .z
      have hR : hasR ps a b = false := by rw [← Bool.not_eq_true, hasR_goods]; exact hnot
      refine .store1 ‹_› (.s (.s (.s .z))) (by rfl) (by rfl) ?_
      intro m h
      refine .load1 ‹_› (.s (.s (.s .z))) (by rfl) ?_
      refine .ret1 (by rfl) ?_
      intro m hobj
      refine ⟨by rw [hR], ?_⟩
      exact Am.Sep.right (H := [_, _, _, _]) (h.objs hobj)
    · refine .inr (.inr ⟨_, _, _, _, h.get .z, ?_⟩)
      have h := h.mark (o' := .gone) .z
      have hR : hasR ps a b = true := hasR_goods.2 hin
      refine .blkR ?_
      refine .load1 ‹_› (.s (.s (.s .z))) (by rfl) ?_
      refine .ret1 (by rfl) ?_
      intro m hobj
      exact ⟨by rw [hR], Am.Sep.right (H := [_, _, _, _]) (h.objs hobj)⟩
end Go.Proofs.P17
