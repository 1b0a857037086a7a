/- The walk through the law of what is true. -/
import Derived.Test.YtdddcofggemnkaaDoorP16H3
namespace Go.Proofs.P16
set_option linter.all false
open Go Go.Am Go.Bdd
attribute [local irreducible] loadK storeK newK boxK tipK makeMapK buildTK buildK buildSliceK nilK binK unK condK convK eqvK pickK gK gDK vK extractK fieldK lookupK mapUpdateK appendK min2K max2K retK makeSliceK freezeK bytesK loopV blkK stayK sameK rangeK callK aFieldAddr aIndexAddr aIndexAddrA aLen aIndex aSlice

set_option maxHeartbeats 8000000 in
theorem want3 {L : List (List Int)} {els fv : List AV} {ts : List Nat} {fs : List BF} {i : Nat} {fr : Heap} (hel : els.length = L.length) (hels : ∀ (i : Nat) (s : List Int), L[i]? = some s → ∃ x, els[i]? = some x ∧ IsInts x s) (hLl : L.length ≤ 8) (hL6 : ∀ s ∈ L, s.length ≤ 6 ∧ ∀ y ∈ s, y < 6)
    (hfam : Fam fv ts fs) (hi : i < fs.length) (hl : fs.length ≤ 20) {n : Nat} (hn : 100 < n) {kn : KN} {kx : KX} {P : AV → Mem → Prop} {m : Mem} (h : Sep m fr)
    (hk : ∀ m', Sep m' fr → Tells (kn [(1, .list .shared 1 els), (5, .list .shared 2 fv), (10, vI (i + 1 : Nat))] m') P) :
    Tells (S3_24 (Am.Call T) n kn kx (.list .shared 1 els) (.list .shared 2 fv) (vI i) m) P := by
  obtain ⟨f, hfi⟩ : ∃ f, fs[i]? = some f := ⟨_, List.getElem?_eq_getElem hi⟩
  obtain ⟨x, t, hfx, hxf, _, htt⟩ := hfam.ok i f hfi
  have hf := htt.gd
  obtain ⟨kf, rfl, hkf⟩ := hxf
  unfold S3_24 G3_24
  refine Tells.indexL (j := i) rfl hfx ?_
  refine Tells.loadCA (n := 2) (xs := [.list .shared kf (f.nodes.map encNd), .bool f.one]) rfl ?_
  refine Tells.call rfl (call6 ⟨kf, rfl, hkf⟩ hf.len h) ?_
  rintro xv m ⟨H, zs, hx, hz, h⟩
  have hzl := hz.len
  have hfl := hf.len
  have go : ∀ {m : Mem} (kx' : KX) (b0 : Bool), (b0 = true ↔ ∀ v, Hg f v → v < L.length) → Sep m fr → Tells (loopV [1, 5, 10, 12, 13] none
      (fun vs m kn kx => unc vs fun x0 vs => unc vs fun x1 vs => unc vs fun x2 vs => unc vs fun x3 vs => unc vs fun x4 vs => unz vs (S3_16 (Am.Call T) n kn kx x0 x1 x2 x3 x4 m))
      (blkK 6 (fun e m => keepK e [1, 5, 10, 12] fun vs => unc vs fun x0 vs => unc vs fun x1 vs => unc vs fun x2 vs => unc vs fun x3 vs => unz vs (S3_22 (Am.Call T) n kn kx x0 x1 x2 x3 m)) kx')
      n [.list .shared 1 els, .list .shared 2 fv, vI i, .bool b0, .int .i64 0] m) P := by
    intro m kx' b0 hb0 h
    have fin : ∀ {m : Mem} (b : Bool), (b = true ↔ HoldB L f) → Sep m fr → Tells (S3_22 (Am.Call T) n kn kx (.list .shared 1 els) (.list .shared 2 fv) (vI i) (.bool b) m) P := by
      intro m b hb h
      unfold S3_22 G3_22
      refine Tells.indexL (j := i) rfl hfx ?_
      refine Tells.loadCA (n := 2) (xs := [.list .shared kf (f.nodes.map encNd), .bool f.one]) rfl ?_
      refine Tells.call rfl (call9 ⟨kf, rfl, hkf⟩ hf ⟨1, els, rfl, .inl rfl, hel, hels⟩ hLl hL6 h) ?_
      rintro _ m ⟨⟨b9, rfl, hb9⟩, h⟩
      have e : b9 = b := by rw [Bool.eq_iff_iff, hb9, hb]
      subst e
      refine Tells.neB ?_
      refine Tells.condF (fun e => e rfl) ?_
      exact text3 (els := els) hfam hi hl hn h hk
    have hold : HoldB L f ↔ (∀ v, Hg f v → v < L.length) ∧ ∀ c, c < 64 → f.sem (rowR (onL L c L.length)) = true :=
      ⟨fun h => ⟨h.1, (want_iff hf (fun s hs => (hL6 s hs).2) h.1).2 h.2⟩, fun h => ⟨h.1, (want_iff hf (fun s hs => (hL6 s hs).2) h.1).1 h.2⟩⟩
    refine Tells.loop (fun j vs m => ∃ (c : Nat) (b : Bool), c + j = 64 ∧ vs = [.list .shared 1 els, .list .shared 2 fv, vI i, .bool b, vI c] ∧ (b = true ↔ (∀ v, Hg f v → v < L.length) ∧ ∀ c', c' < c → f.sem (rowR (onL L c' L.length)) = true) ∧ Sep m fr) ?_ (i := 64) (by omega) ?_
    · rintro j vs m L2 ⟨c, b, j1, rfl, hb, h⟩ hL
      unfold S3_16 G3_16
      by_cases hc : c < 64
      · have hci : (c : Int) < 64 := by omega
        refine Tells.lss ?_
        refine Tells.gT rfl hci ?_
        refine Tells.pickT hci ?_
        cases b with
        | true =>
          refine Tells.condtt ?_
          refine on3 hel hels hLl hL6 hc hfx ⟨kf, rfl, hkf⟩ hf hn h ?_
          intro m h
          have hb' := hb.1 rfl
          refine hL (j - 1) _ _ (by omega) ⟨c + 1, _, by omega, rfl, ⟨fun e => ⟨hb'.1, fun c' hc' => ?_⟩, fun e => e.2 c (by omega)⟩, h⟩
          by_cases e' : c' = c
          · subst e'; exact e
          · exact hb'.2 c' (by omega)
        | false =>
          refine Tells.condff ?_
          refine .blk ?_
          refine fin false ⟨fun e => (by cases e), fun e => ?_⟩ h
          have e := hold.1 e
          exact absurd (hb.2 ⟨e.1, fun c' hc' => e.2 c' (by omega)⟩) (by simp)
      · have hce : c = 64 := by omega
        subst hce
        have hci : ¬ ((64 : Nat) : Int) < 64 := by omega
        refine Tells.lss ?_
        refine Tells.gFT rfl hci ?_
        refine Tells.pickF hci ?_
        refine .condff ?_
        refine .blk ?_
        exact fin b (hb.trans hold.symm) h
    · exact ⟨0, b0, by omega, rfl, hb0.trans ⟨fun e => ⟨e, fun c' hc' => by omega⟩, fun e => e.1⟩, h⟩
  by_cases hz0 : (zs.length : Int) = 0
  · have hze : zs = [] := List.eq_nil_of_length_eq_zero (by omega)
    refine lenV hx ?_
    refine .eql ?_
    refine .gTF (by rfl) (by first | assumption | omega) ?_
    refine .gTF (by rfl) (by first | assumption | omega) ?_
    refine .gTF (by rfl) (by first | assumption | omega) ?_
    refine .gTF (by rfl) (by first | assumption | omega) ?_
    refine .gTF (by rfl) (by first | assumption | omega) ?_
    refine .gTF (by rfl) (by first | assumption | omega) ?_
    refine .gTF (by rfl) (by first | assumption | omega) ?_
    refine .gTF (by rfl) (by first | assumption | omega) ?_
    refine .gTF (by rfl) (by first | assumption | omega) ?_
    refine .pickT (by first | assumption | omega) ?_
    refine go _ true ⟨fun _ v hv => ?_, fun _ => rfl⟩ h.right
    have := (hz.mem (v : Int)).2 ⟨by omega, by simpa using hv⟩
    rw [hze] at this
    cases this
  · obtain ⟨z, hzz⟩ : ∃ z, zs[zs.length - 1]? = some z := ⟨_, List.getElem?_eq_getElem (by omega)⟩
    have ii : ((zs.length : Int) - 1) = ((zs.length - 1 : Nat) : Int) := by omega
    refine lenV hx ?_
    refine .eql ?_
    refine .gF (by rfl) (by first | assumption | omega) ?_
    refine .gF (by rfl) (by first | assumption | omega) ?_
    refine .gF (by rfl) (by first | assumption | omega) ?_
    refine lenV hx ?_
    refine .gF (by rfl) (by first | assumption | omega) ?_
    refine .sub (c := ((zs.length - 1 : Nat) : Int)) ii (by omega) ?_
    refine .gF (by rfl) (by first | assumption | omega) ?_
    refine idxV hx hzz ?_; intro id ver hld
    refine .gF (by rfl) (by first | assumption | omega) ?_
    refine hld _ _ h _ _ ?_
    refine .gF (by rfl) (by first | assumption | omega) ?_
    refine .gF (by rfl) (by first | assumption | omega) ?_
    refine .lenL ?_
    refine .gF (by rfl) (by first | assumption | omega) ?_
    refine .lss ?_
    refine .pickF (by first | assumption | omega) ?_
    refine go _ _ ?_ h.right
    rw [decide_eq_true_eq, hel]
    exact vars_last hz hzz
end Go.Proofs.P16
namespace Go.Proofs.P16
set_option linter.all false
open Go Go.Am Go.Bdd
attribute [local irreducible] loadK storeK newK boxK tipK makeMapK buildTK buildK buildSliceK nilK binK unK condK convK eqvK pickK gK gDK vK extractK fieldK lookupK mapUpdateK appendK min2K max2K retK makeSliceK freezeK bytesK loopV blkK stayK sameK rangeK callK aFieldAddr aIndexAddr aIndexAddrA aLen aIndex aSlice

set_option maxHeartbeats 8000000 in
theorem funs3 {L : List (List Int)} {els fv : List AV} {ts : List Nat} {fs : List BF} {fr : Heap} (hel : els.length = L.length) (hels : ∀ (i : Nat) (s : List Int), L[i]? = some s → ∃ x, els[i]? = some x ∧ IsInts x s) (hLl : L.length ≤ 8) (hL6 : ∀ s ∈ L, s.length ≤ 6 ∧ ∀ y ∈ s, y < 6)
    (hfam : Fam fv ts fs) (hl : fs.length ≤ 20) {n : Nat} (hn : 100 < n) {m0 m : Mem} (h : Sep m fr) :
    Tells (S3_27 (Am.Call T) n m0 (.list .shared 1 els) (.list .shared 2 fv) m) fun x _ => x = .bool true := by
  have hfl := hfam.l1
  unfold S3_27 G3_27
  refine Tells.loop (fun j vs m => ∃ i : Nat, i + j = fs.length ∧ vs = [.list .shared 1 els, .list .shared 2 fv, vI i] ∧ Sep m fr) ?_ (i := fs.length) (by omega) ?_
  · rintro j vs m L2 ⟨i, j1, rfl, h⟩ hL
    unfold S3_25 G3_25
    refine Tells.lenL ?_
    rw [hfl]
    by_cases hi : i < fs.length
    · refine Tells.lss ?_
      refine Tells.condT (by omega) ?_
      refine want3 hel hels hLl hL6 hfam hi hl hn h ?_
      intro m h
      exact hL (j - 1) _ _ (by omega) ⟨i + 1, by omega, rfl, h⟩
    · refine .lss ?_
      refine .condF (by first | assumption | omega) ?_
      refine .blk ?_
      refine Tells.call rfl (call5 h) ?_
      rintro _ m ⟨rfl, h⟩
      refine Tells.ret1 rfl ?_
      intro m' hobj
      rfl
  · exact ⟨0, by omega, rfl, h⟩

set_option maxHeartbeats 8000000 in
theorem call3 {m : Mem} {v : AV} {as' : List ActR} {L : List (List Int)} {els : List AV} (hv : IsActs v as') (hl : as'.length < 1152921504606846976) (hb : ∀ a ∈ as', a.l.length < 1152921504606846976)
    (hel : els.length = L.length) (hels : ∀ (i : Nat) (s : List Int), L[i]? = some s → ∃ x, els[i]? = some x ∧ IsInts x s) (hs : Sep m []) :
    Tells (Am.Call T 3 [v, .list .shared 1 els] m) fun x _ => x = .bool true := by
  have hvu : v.untag = v := by obtain ⟨k, e, rfl, _⟩ := hv; rfl
  refine Tells.fn 300 rfl F3_ok rfl ?_
  show Tells (S3 (Am.Call T) _ m v (.list .shared 1 els)) _
  have h : Sep ⟨m.objs, none⟩ [] := hs.objs rfl
  unfold S3 G3
  refine Tells.call (args := [v]) (by simp [hvu]) (call4 hv hl h hb) ?_
  rintro r m (⟨u, w, rfl, h⟩ | ⟨fv, ts, fs, rfl, h, hfam, hfl⟩)
  · refine .extract (by rfl) ?_
    refine .extract (by rfl) ?_
    refine .extract (by rfl) ?_
    refine .not ?_
    refine .gtf ?_
    refine .gtf ?_
    refine .gtf ?_
    refine .picktt ?_
    refine .condtt ?_
    refine Tells.call rfl (call5 h) ?_
    rintro _ m ⟨rfl, h⟩
    refine Tells.ret1 rfl ?_
    intro m' hobj
    rfl
  · by_cases h8 : (8 : Int) < els.length
    · refine .extract (by rfl) ?_
      refine .extract (by rfl) ?_
      refine .extract (by rfl) ?_
      refine .not ?_
      refine .gff ?_
      refine .gff ?_
      refine .lenL ?_
      refine .gff ?_
      refine .gtr ?_
      refine .pickff ?_
      refine .condT (by first | assumption | omega) ?_
      refine Tells.call rfl (call5 h) ?_
      rintro _ m ⟨rfl, h⟩
      refine Tells.ret1 rfl ?_
      intro m' hobj
      rfl
    · refine .extract (by rfl) ?_
      refine .extract (by rfl) ?_
      refine .extract (by rfl) ?_
      refine .not ?_
      refine .gff ?_
      refine .gff ?_
      refine .lenL ?_
      refine .gff ?_
      refine .gtr ?_
      refine .pickff ?_
      refine .condF (by first | assumption | omega) ?_
      unfold S3_28 G3_28
      refine Tells.loop (fun j vs m => ∃ i : Nat, i + j = L.length ∧ (∀ s ∈ L.take i, s.length ≤ 6 ∧ ∀ y ∈ s, y < 6) ∧ vs = [.list .shared 1 els, .list .shared 2 fv, vI i] ∧ Sep m []) ?_ (i := L.length) (by omega) ?_
      · rintro jo vs m L2 ⟨i, jo1, jo2, rfl, h⟩ hL
        unfold S3_6 G3_6
        by_cases hi : i < L.length
        · obtain ⟨s, hsi⟩ : ∃ s, L[i]? = some s := ⟨_, List.getElem?_eq_getElem hi⟩
          obtain ⟨x, hx, ks, rfl, hks⟩ := hels i s hsi
          have hls : (s.map vZ).length = s.length := List.length_map _
          have hil : (i : Int) < els.length := by omega
          by_cases h6 : (6 : Int) < (s.map vZ).length
          · refine .lenL ?_
            refine .lss ?_
            refine .condT (by first | assumption | omega) ?_
            refine .indexL (j := i) (by rfl) hx ?_
            refine .loadC1 (by rfl) ?_
            refine .lenL ?_
            refine .gtr ?_
            refine .condT (by first | assumption | omega) ?_
            refine Tells.call rfl (call5 h) ?_
            rintro _ m ⟨rfl, h⟩
            refine .blkR ?_
            refine .ret1 (by rfl) ?_
            intro m hobj
            rfl
          · refine .lenL ?_
            refine .lss ?_
            refine .condT (by first | assumption | omega) ?_
            refine .indexL (j := i) (by rfl) hx ?_
            refine .loadC1 (by rfl) ?_
            refine .lenL ?_
            refine .gtr ?_
            refine .condF (by first | assumption | omega) ?_
            unfold S3_3 G3_3
            refine Tells.loop (fun j vs m => ∃ k : Nat, k + j = s.length ∧ (∀ y ∈ s.take k, y < 6) ∧ vs = [.list .shared 1 els, .list .shared 2 fv, vI i, vI k] ∧ Sep m []) ?_ (i := s.length) (by omega) ?_
            · rintro j vs m L3 ⟨k, j1, j2, rfl, h⟩ hL3
              unfold S3_2 G3_2
              by_cases hk : k < s.length
              · obtain ⟨z, hz⟩ : ∃ z, s[k]? = some z := ⟨_, List.getElem?_eq_getElem hk⟩
                have hgz : (s.map vZ)[k]? = some (vZ z) := by rw [List.getElem?_map, hz]; rfl
                have hks : ks = 1 := hks.resolve_right (by intro e; rw [e] at hk; simp at hk)
                subst hks
                by_cases h5 : (5 : Int) < z
                · refine .indexL (j := i) (by rfl) hx ?_
                  refine .loadC1 (by rfl) ?_
                  refine .lenL ?_
                  refine .lss ?_
                  refine .condT (by first | assumption | omega) ?_
                  refine .indexL (j := i) (by rfl) hx ?_
                  refine .loadC1 (by rfl) ?_
                  refine .indexL (j := k) (by rfl) hgz ?_
                  refine .loadC1 (by rfl) ?_
                  refine .gtr ?_
                  refine .condT (by first | assumption | omega) ?_
                  refine Tells.call rfl (call5 h) ?_
                  rintro _ m ⟨rfl, h⟩
                  refine .blkR ?_
                  refine .blkR ?_
                  refine .blkR ?_
                  refine .ret1 (by rfl) ?_
                  intro m hobj
                  rfl
                · refine .indexL (j := i) (by rfl) hx ?_
                  refine .loadC1 (by rfl) ?_
                  refine .lenL ?_
                  refine .lss ?_
                  refine .condT (by first | assumption | omega) ?_
                  refine .indexL (j := i) (by rfl) hx ?_
                  refine .loadC1 (by rfl) ?_
                  refine .indexL (j := k) (by rfl) hgz ?_
                  refine .loadC1 (by rfl) ?_
                  refine .gtr ?_
                  refine .condF (by first | assumption | omega) ?_
                  refine .add (by rfl) (by omega) ?_
                  refine hL3 (j - 1) _ _ (by omega) ⟨k + 1, by omega, ?_, rfl, h⟩
                  rw [List.take_add_one, hz]
                  intro y hy
                  rcases List.mem_append.1 hy with e | e
                  · exact j2 y e
                  · rw [List.mem_singleton.1 e]; omega
              · have hke : k = s.length := by omega
                subst hke
                rw [List.take_length] at j2
                refine .indexL (j := i) (by rfl) hx ?_
                refine .loadC1 (by rfl) ?_
                refine .lenL ?_
                refine .lss ?_
                refine .condF (by first | assumption | omega) ?_
                refine .blk ?_
                refine .add (by rfl) (by omega) ?_
                refine hL (jo - 1) _ _ (by omega) ⟨i + 1, by omega, ?_, rfl, h⟩
                rw [List.take_add_one, hsi]
                intro y hy
                rcases List.mem_append.1 hy with e | e
                · exact jo2 y e
                · rw [List.mem_singleton.1 e]; exact ⟨by omega, j2⟩
            · exact ⟨0, by omega, by simp, rfl, h⟩
        · have hie : i = L.length := by omega
          subst hie
          rw [List.take_length] at jo2
          have nlt : ¬ (L.length : Int) < els.length := by omega
          refine .lenL ?_
          refine .lss ?_
          refine .condF (by first | assumption | omega) ?_
          refine .blk ?_
          exact funs3 hel hels (by omega) jo2 hfam hfl (by omega) h
      · exact ⟨0, by omega, by simp, rfl, h⟩
end Go.Proofs.P16
