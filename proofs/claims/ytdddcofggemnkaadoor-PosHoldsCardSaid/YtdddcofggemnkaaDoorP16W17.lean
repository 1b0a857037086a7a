/- The walk through what acts make: all of them. -/
import Derived.Test.YtdddcofggemnkaaDoorP16W16
namespace Go.Proofs.P16
set_option linter.all false
open Go Go.Am Go.Bdd
attribute [local irreducible] loadK storeK newK boxK tipK makeMapK buildTK buildK buildSliceK nilK binK unK condK convK eqvK pickK gK gDK vK extractK fieldK lookupK mapUpdateK appendK min2K max2K retK makeSliceK freezeK bytesK loopV blkK stayK sameK rangeK callK aFieldAddr aIndexAddr aIndexAddrA aLen aIndex aSlice
attribute [local irreducible] S4_8

/-- A value is a row of acts. -/
def IsActs (v : AV) (as' : List ActR) : Prop := ∃ k els, v = .list .shared k els ∧ (k = 5 ∨ els = []) ∧ els.length = as'.length ∧ ∀ (i : Nat) (a : ActR), as'[i]? = some a → ∃ e, els[i]? = some e ∧ IsAct e a

/-- What the acts' functions are, if they may be made. -/
def MadeAll (fr : Heap) (x : AV) (m' : Mem) : Prop := (∃ u w, x = .tuple [u, w, .bool false] ∧ Sep m' fr) ∨ ∃ fv ts fs, x = .tuple [.list .shared 2 fv, .list .shared 1 (ts.map vU), .bool true] ∧ Sep m' fr ∧ Fam fv ts fs ∧ fs.length ≤ 20

set_option maxHeartbeats 8000000 in
theorem call4 {m : Mem} {fr : Heap} {v : AV} {as' : List ActR} (hv : IsActs v as') (hl : as'.length < 1152921504606846976) (hs : Sep m fr) (hb : ∀ a ∈ as', a.l.length < 1152921504606846976) :
    Tells (Am.Call T 4 [v] m) (MadeAll fr) := by
  obtain ⟨k, els, rfl, hk, hel, he⟩ := hv
  refine Tells.fn 100 rfl F4_ok rfl ?_
  show Tells (S4 (Am.Call T) _ m (.list .shared k els)) _
  have h : Sep ⟨m.objs, none⟩ fr := hs.objs rfl
  unfold S4 G4
  by_cases h20 : as'.length ≤ 20
  · refine .lenL ?_
    refine .gtr ?_
    refine .condF (by first | assumption | omega) ?_
    refine .tip ‹_› ?_
    intro nw m h
    refine .tip ‹_› ?_
    intro nw m h
    rename_i tf _ _
    generalize nw = tt at *
    refine Tells.loop (fun j vs m => ∃ (i : Nat) (fv : List AV) (ts : List Nat) (fs : List BF), i + j = as'.length ∧ fs.length = i ∧ Fam fv ts fs ∧ vs = [.list .shared k els, .list (.own tf) 2 fv, .list (.own tt) 1 (ts.map vU), vI i] ∧ Sep m ((tf, .tip fs.length) :: (tt, .tip fs.length) :: fr)) ?_ (i := as'.length) (by omega) ?_
    · rintro j vs m L ⟨i, fv, ts, fs, j1, j2, j3, rfl, h⟩ hL
      by_cases hi : i < as'.length
      · obtain ⟨a, ha⟩ : ∃ a, as'[i]? = some a := ⟨_, List.getElem?_eq_getElem hi⟩
        obtain ⟨e, hee, ⟨_, rfl, ⟨k1, rfl, hk1⟩⟩⟩ := he i a ha
        have hk : k = 5 := hk.resolve_right (by rintro rfl; simp at hel; omega)
        subst hk
        have hal : (a.l.map vZ).length = a.l.length := List.length_map _
        have hab := hb a (List.mem_of_getElem? ha)
        by_cases hv5 : a.v ≤ 5
        · by_cases hl8 : a.l.length ≤ 8
          · refine .lenL ?_
            refine .lss ?_
            refine .condT (by first | assumption | omega) ?_
            refine .indexL (j := i) (by rfl) hee ?_
            refine .loadCA (by rfl) ?_
            refine .new ‹_› ?_
            intro nw m h
            refine .storeA ‹_› .z (by rfl) (by rfl) ?_
            intro m h
            refine .fieldAddr ?_
            refine .load1 ‹_› .z (by rfl) ?_
            refine .gtr ?_
            refine .gF (by rfl) (by first | assumption | omega) ?_
            refine .fieldAddr ?_
            refine .gF (by rfl) (by first | assumption | omega) ?_
            refine .load1 ‹_› .z (by rfl) ?_
            refine .gF (by rfl) (by first | assumption | omega) ?_
            refine .lenL ?_
            refine .gF (by rfl) (by first | assumption | omega) ?_
            refine .gtr ?_
            refine .pickF (by first | assumption | omega) ?_
            refine .condF (by first | assumption | omega) ?_
            generalize nw = xp at *
            refine Tells.loop (fun i' vs m => ∃ c : Nat, c + i' = a.l.length ∧ (∀ y ∈ a.l.take c, y < 6) ∧ vs = [.list .shared 5 els, .list (.own tf) 2 fv, .list (.own tt) 1 (ts.map vU), vI i, .ptr xp 0 0, vI c] ∧
              Sep m ((xp, .row 0 [.int .i64 a.d, .int .i64 a.v, .int .i64 a.a, .int .i64 a.b, .list .shared k1 (a.l.map vZ)]) :: (tf, .tip fs.length) :: (tt, .tip fs.length) :: fr)) ?_ (i := a.l.length) (by omega) ?_
            · rintro i' vs m L2 ⟨c, c1, c2, rfl, h⟩ hL2
              by_cases hc : c < a.l.length
              · obtain ⟨y, hy⟩ : ∃ y, a.l[c]? = some y := ⟨_, List.getElem?_eq_getElem hc⟩
                have hgy : (a.l.map vZ)[c]? = some (.int .i64 y) := by rw [List.getElem?_map, hy]; rfl
                have hk1 : k1 = 1 := hk1.resolve_right (by intro e; rw [e] at hc; simp at hc)
                subst hk1
                by_cases hy5 : 5 < y
                · refine .fieldAddr ?_
                  refine .load1 ‹_› .z (by rfl) ?_
                  refine .lenL ?_
                  refine .lss ?_
                  refine .condT (by first | assumption | omega) ?_
                  refine .fieldAddr ?_
                  refine .load1 ‹_› .z (by rfl) ?_
                  refine .indexL (j := c) (by rfl) hgy ?_
                  refine .loadC1 (by rfl) ?_
                  refine .gtr ?_
                  refine .condT (by first | assumption | omega) ?_
                  refine .blkR ?_
                  refine .blkR ?_
                  refine .blkR ?_
                  refine .ret (by rfl) (r := .tuple [.list .shared 2 [], .list .shared 1 [], .bool false]) (by rfl) ?_
                  intro m hobj
                  exact .inl ⟨_, _, rfl, (h.objs hobj).tail.tail.tail⟩
                · refine .fieldAddr ?_
                  refine .load1 ‹_› .z (by rfl) ?_
                  refine .lenL ?_
                  refine .lss ?_
                  refine .condT (by first | assumption | omega) ?_
                  refine .fieldAddr ?_
                  refine .load1 ‹_› .z (by rfl) ?_
                  refine .indexL (j := c) (by rfl) hgy ?_
                  refine .loadC1 (by rfl) ?_
                  refine .gtr ?_
                  refine .condF (by first | assumption | omega) ?_
                  refine .add (by rfl) (by omega) ?_
                  refine hL2 (i' - 1) _ _ (by omega) ⟨c + 1, by omega, fun z hz => ?_, rfl, h⟩
                  rw [List.take_add_one, hy] at hz
                  simp only [Option.toList_some, List.mem_append, List.mem_singleton] at hz
                  rcases hz with hz | rfl
                  · exact c2 z hz
                  · omega
              · rw [List.take_of_length_le (by omega)] at c2
                have hnext : ∀ (q : BF) (fx : AV) (t : Nat) (m' : Mem), IsFn fx q → Tt t q → Sep m' ((tf, .tip (fs.length + 1)) :: (tt, .tip (fs.length + 1)) :: fr) → Tells (L [.list .shared 5 els, .list (.own tf) 2 (fv ++ [fx]), .list (.own tt) 1 ((ts ++ [t]).map vU), vI (i + 1)] m') (MadeAll fr) := fun q fx t m' hfx ht h =>
                  hL (j - 1) _ _ (by omega) ⟨i + 1, fv ++ [fx], ts ++ [t], fs ++ [q], by omega, by simp; omega, j3.snoc hfx ht, rfl, by simpa using h⟩
                have hl1 := j3.l1
                by_cases h0 : fs.length = 0
                · have hfs : fs = [] := List.eq_nil_of_length_eq_zero h0
                  refine .fieldAddr ?_
                  refine .load1 ‹_› .z (by rfl) ?_
                  refine .lenL ?_
                  refine .lss ?_
                  refine .condF (by first | assumption | omega) ?_
                  refine .blk ?_
                  refine .build (cs := [.list .full 0 [], .bool false]) (by rfl) ?_
                  refine .build (cs := [.list .full 0 [], .bool false]) (by rfl) ?_
                  refine .new ‹_› ?_
                  intro nw m h
                  refine .new ‹_› ?_
                  intro nw m h
                  refine .storeA ‹_› (.s .z) (by rfl) (by rfl) ?_
                  intro m h
                  refine .storeA ‹_› .z (by rfl) (by rfl) ?_
                  intro m h
                  refine .lenL ?_
                  refine .gtr ?_
                  refine .condF (by first | assumption | omega) ?_
                  exact mid16 (n := 100) (f := ⟨[], false⟩) (g := ⟨[], false⟩) (by omega) j3 (by omega) (by omega) hk1 hv5 hl8 c2 (by rw [hfs]; rfl) (by rw [hfs]; rfl) gd_const gd_const (.inr rfl) (.inr rfl) h hnext
                · have hpk : ∀ z, ∃ kf, fv[placeN z fs.length]? = some (.agg [.list .shared kf ((pickF fs z).nodes.map encNd), .bool (pickF fs z).one]) ∧ (kf = 3 ∨ (pickF fs z).nodes = []) ∧ Gd 6 (pickF fs z) := fun z => by
                    have hlt := placeN_lt (a := z) (show 0 < fs.length by omega)
                    obtain ⟨f, hf⟩ : ∃ f, fs[placeN z fs.length]? = some f := ⟨_, List.getElem?_eq_getElem hlt⟩
                    obtain ⟨_, t, x1, ⟨kf, rfl, x2⟩, _, x4⟩ := j3.ok _ _ hf
                    have e : pickF fs z = f := by rw [pickF, hf]; rfl
                    rw [e]
                    exact ⟨kf, x1, x2, x4.gd⟩
                  obtain ⟨ka, a1, a2, a3⟩ := hpk a.a
                  obtain ⟨kb, b1, b2, b3⟩ := hpk a.b
                  refine .fieldAddr ?_
                  refine .load1 ‹_› .z (by rfl) ?_
                  refine .lenL ?_
                  refine .lss ?_
                  refine .condF (by first | assumption | omega) ?_
                  refine .blk ?_
                  refine .build (cs := [.list .full 0 [], .bool false]) (by rfl) ?_
                  refine .build (cs := [.list .full 0 [], .bool false]) (by rfl) ?_
                  refine .new ‹_› ?_
                  intro nw m h
                  refine .new ‹_› ?_
                  intro nw m h
                  refine .storeA ‹_› (.s .z) (by rfl) (by rfl) ?_
                  intro m h
                  refine .storeA ‹_› .z (by rfl) (by rfl) ?_
                  intro m h
                  refine .lenL ?_
                  refine .gtr ?_
                  refine .condT (by first | assumption | omega) ?_
                  refine .fieldAddr ?_
                  refine .load1 ‹_› (.s (.s .z)) (by rfl) ?_
                  refine .lenL ?_
                  rw [hl1]
                  refine Tells.call rfl (call12 (by omega) (by omega) h) ?_
                  rintro _ _ ⟨rfl, h⟩
                  refine .indexL (by rfl) a1 ?_
                  refine .loadCA (by rfl) ?_
                  refine .storeA ‹_› (.s .z) (by rfl) (by rfl) ?_
                  intro m h
                  refine .fieldAddr ?_
                  refine .load1 ‹_› (.s (.s .z)) (by rfl) ?_
                  refine .lenL ?_
                  rw [hl1]
                  refine Tells.call rfl (call12 (by omega) (by omega) h) ?_
                  rintro _ _ ⟨rfl, h⟩
                  refine .indexL (by rfl) b1 ?_
                  refine .loadCA (by rfl) ?_
                  refine .storeA ‹_› .z (by rfl) (by rfl) ?_
                  intro m h
                  exact mid16 (n := 100) (by omega) j3 (by omega) (by omega) hk1 hv5 hl8 c2 rfl rfl a3 b3 a2 b2 h hnext
            · exact ⟨0, by omega, fun y hy => by simp at hy, rfl, h⟩
          · refine .lenL ?_
            refine .lss ?_
            refine .condT (by first | assumption | omega) ?_
            refine .indexL (j := i) (by rfl) hee ?_
            refine .loadCA (by rfl) ?_
            refine .new ‹_› ?_
            intro nw m h
            refine .storeA ‹_› .z (by rfl) (by rfl) ?_
            intro m h
            refine .fieldAddr ?_
            refine .load1 ‹_› .z (by rfl) ?_
            refine .gtr ?_
            refine .gF (by rfl) (by first | assumption | omega) ?_
            refine .fieldAddr ?_
            refine .gF (by rfl) (by first | assumption | omega) ?_
            refine .load1 ‹_› .z (by rfl) ?_
            refine .gF (by rfl) (by first | assumption | omega) ?_
            refine .lenL ?_
            refine .gF (by rfl) (by first | assumption | omega) ?_
            refine .gtr ?_
            refine .pickF (by first | assumption | omega) ?_
            refine .condT (by first | assumption | omega) ?_
            refine .blkR ?_
            refine .ret (by rfl) (r := .tuple [.list .shared 2 [], .list .shared 1 [], .bool false]) (by rfl) ?_
            intro m hobj
            exact .inl ⟨_, _, rfl, (h.objs hobj).tail.tail.tail⟩
        · refine .lenL ?_
          refine .lss ?_
          refine .condT (by first | assumption | omega) ?_
          refine .indexL (j := i) (by rfl) hee ?_
          refine .loadCA (by rfl) ?_
          refine .new ‹_› ?_
          intro nw m h
          refine .storeA ‹_› .z (by rfl) (by rfl) ?_
          intro m h
          refine .fieldAddr ?_
          refine .load1 ‹_› .z (by rfl) ?_
          refine .gtr ?_
          refine .gTF (by rfl) (by first | assumption | omega) ?_
          refine .gTF (by rfl) (by first | assumption | omega) ?_
          refine .gTF (by rfl) (by first | assumption | omega) ?_
          refine .gTF (by rfl) (by first | assumption | omega) ?_
          refine .pickT (by first | assumption | omega) ?_
          refine .condtt ?_
          refine .blkR ?_
          refine .ret (by rfl) (r := .tuple [.list .shared 2 [], .list .shared 1 [], .bool false]) (by rfl) ?_
          intro m hobj
          exact .inl ⟨_, _, rfl, (h.objs hobj).tail.tail.tail⟩
      · refine .lenL ?_
        refine .lss ?_
        refine .condF (by first | assumption | omega) ?_
        refine .blk ?_
        refine .ret (by rfl) (r := .tuple [.list .shared 2 fv, .list .shared 1 (ts.map vU), .bool true]) (by rfl) ?_
        intro m hobj
        exact .inr ⟨fv, ts, fs, rfl, (h.objs hobj).tail.tail, j3, by omega⟩
    · exact ⟨0, [], [], [], by omega, rfl, ⟨rfl, rfl, fun i f h => by simp at h⟩, rfl, h.mvs [0, 1]⟩
  · refine .lenL ?_
    refine .gtr ?_
    refine .condT (by first | assumption | omega) ?_
    refine .ret (by rfl) (r := .tuple [.list .shared 2 [], .list .shared 1 [], .bool false]) (by rfl) ?_
    intro m hobj
    exact .inl ⟨_, _, rfl, h.objs hobj⟩
end Go.Proofs.P16
