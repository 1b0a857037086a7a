/- The walk through the places of pairs; calls that leave all as it is. -/
import Derived.Test.YtdddcofggemnkaaP17V16
namespace Go.Proofs.P17
set_option linter.all false
open Go Go.Am
attribute [local irreducible] loadK storeK newK boxK tipK makeMapK buildTK buildK buildSliceK nilK binK unK condK convK eqvK pickK gK gDK vK extractK fieldK lookupK mapUpdateK appendK min2K max2K retK makeSliceK freezeK bytesK loopV blkK stayK sameK rangeK callK aFieldAddr aIndexAddr aIndexAddrA aLen aIndex aSlice

theorem Tells.bs3 {m : Mem} {P : AV → Mem → Prop} {k1 k2 k3 : IntKind} {a b c : Int} {z : AV} {k : KV} (hk : Tells (k (.list .full 1 [.int k1 a, .int k2 b, .int k3 c]) m) P) : Tells (buildSliceK 1 [z] 3 false [(0 * 1, 1, AV.untag (.int k1 a)), (1 * 1, 1, AV.untag (.int k2 b)), (2 * 1, 1, AV.untag (.int k3 c))] m k) P := by
  refine Tells.of_eq ?_ hk
  simp [buildSliceK, fillParts, rep, AV.untag, AV.cells, AV.solid, setCells, toElems]
theorem Tells.bs4 {m : Mem} {P : AV → Mem → Prop} {k1 k2 k3 k4 : IntKind} {a b c d : Int} {z : AV} {k : KV} (hk : Tells (k (.list .full 1 [.int k1 a, .int k2 b, .int k3 c, .int k4 d]) m) P) : Tells (buildSliceK 1 [z] 4 false [(0 * 1, 1, AV.untag (.int k1 a)), (1 * 1, 1, AV.untag (.int k2 b)), (2 * 1, 1, AV.untag (.int k3 c)), (3 * 1, 1, AV.untag (.int k4 d))] m k) P := by
  refine Tells.of_eq ?_ hk
  simp [buildSliceK, fillParts, rep, AV.untag, AV.cells, AV.solid, setCells, toElems]

section
variable {m : Mem} {l : Heap} {P : AV → Mem → Prop} {x y : AV} {ps : List (Int × Int)} {zs : List Int} {a b : Int} {bb : Bool} {k : KV}
theorem _root_.Go.Am.Tells.eqbF {a b : Bool} (h : a = b) {k : AV → Rho} (hk : Tells (k (.bool false)) P) : Tells (eqvK ⟨[.b], false⟩ true (.bool a) (.bool b) k) P := by
  subst h
  refine Tells.neB ?_
  rw [decide_eq_false (by simp)]
  exact hk
theorem _root_.Go.Am.Tells.c31 (hx : PSl x l ps) (hl : ps.length < 4294967296) (hb : hasR ps a b = bb) (hs : Sep m l) (hk : ∀ m', Sep m' l → Tells (k (.bool bb) m') P) : Tells (callK (Am.Call T) (.func 31 [] []) false [x, .int .i64 a, .int .i64 b] m k) P := by
  refine Tells.call (args := [x, .int .i64 a, .int .i64 b]) (by simp [hx.untag]; exact ⟨rfl, rfl⟩) (call31 hx hl hs) ?_
  rintro _ m ⟨rfl, h⟩
  rw [hb]
  exact hk m h
theorem _root_.Go.Am.Tells.c42 (hx : PSl x l ps) (hl : ps.length < 4294967296) (hb : hasR ps a b = bb) (hs : Sep m l) (hk : ∀ m', Sep m' l → Tells (k (.bool bb) m') P) : Tells (callK (Am.Call T) (.func 42 [] []) false [x, .int .i64 a, .int .i64 b] m k) P := by
  refine Tells.call (args := [x, .int .i64 a, .int .i64 b]) (by simp [hx.untag]; exact ⟨rfl, rfl⟩) (call42 hx hl hs) ?_
  rintro _ m ⟨rfl, h⟩
  rw [hb]
  exact hk m h
theorem _root_.Go.Am.Tells.c40 (hx : ISl x l zs) (hl : zs.length < 4294967296) (hb : inR zs a = bb) (hs : Sep m l) (hk : ∀ m', Sep m' l → Tells (k (.bool bb) m') P) : Tells (callK (Am.Call T) (.func 40 [] []) false [x, .int .i64 a] m k) P := by
  refine Tells.call (args := [x, .int .i64 a]) (by simp [hx.untag]; rfl) (call40 hx hl hs) ?_
  rintro _ m ⟨rfl, h⟩
  rw [hb]
  exact hk m h
theorem _root_.Go.Am.Tells.c41 (hx : PSl x l ps) (hy : ISl y l zs) (hl : ps.length < 4294967296) (hl2 : zs.length < 4294967296) (hb : relR ps zs a = bb) (hs : Sep m l) (hk : ∀ m', Sep m' l → Tells (k (.bool bb) m') P) : Tells (callK (Am.Call T) (.func 41 [] []) false [x, y, .int .i64 a] m k) P := by
  refine Tells.call (args := [x, y, .int .i64 a]) (by simp [hx.untag, hy.untag]; rfl) (call41 hx hy hl hl2 hs) ?_
  rintro _ m ⟨rfl, h⟩
  rw [hb]
  exact hk m h
theorem _root_.Go.Am.Tells.c30 (hx : PSl x l ps) (hl : ps.length < 4294967296) (hf : FormP ps) (hs : Sep m l) (hk : ∀ m', Sep m' l → Tells (k (.bool true) m') P) : Tells (callK (Am.Call T) (.func 30 [] []) false [x] m k) P := by
  refine Tells.call (args := [x]) (by simp [hx.untag]) (call30 hx hl hf hs) ?_
  rintro _ m ⟨rfl, h⟩
  exact hk m h
theorem _root_.Go.Am.Tells.c38 (hx : ISl x l zs) (hl : zs.length < 4294967296) (hf : RiseP zs) (hs : Sep m l) (hk : ∀ m', Sep m' l → Tells (k (.bool true) m') P) : Tells (callK (Am.Call T) (.func 38 [] []) false [x] m k) P := by
  refine Tells.call (args := [x]) (by simp [hx.untag]) (call38 hx hl hf hs) ?_
  rintro _ m ⟨rfl, h⟩
  exact hk m h
end

def bothE (p : Int × Int) : List Int := [p.1, p.2]
def endsL (ps qs : List (Int × Int)) (zs : List Int) : List Int := [-1, 0, 1, 7] ++ zs ++ ps.flatMap bothE ++ qs.flatMap bothE
theorem both_len {d : List (Int × Int)} : (d.flatMap bothE).length = d.length * 2 := by
  induction d with
  | nil => rfl
  | cons p d ih => simp only [List.flatMap_cons, List.length_append, ih, bothE, List.length_cons, List.length_nil]; omega

set_option maxHeartbeats 8000000 in
theorem call39 {m : Mem} {l : Heap} {v w x : AV} {ps qs : List (Int × Int)} {zs : List Int} (hv : PSl v l ps) (hw : PSl w l qs) (hx : ISl x l zs) (hlp : ps.length ≤ 1000000) (hlq : qs.length ≤ 1000000) (hlz : zs.length ≤ 1000000) (hs : Sep m l) :
    Tells (Am.Call T 39 [v, w, x] m) fun r m' => r = .list .shared 1 ((endsL ps qs zs).map vZ) ∧ Sep m' l := by
  refine Tells.fn (ps.length + qs.length + 2) rfl F39_ok rfl ?_
  show Tells (S39 (Am.Call T) (ps.length + qs.length + 2) m v w x) _
  have h : Sep ⟨m.objs, none⟩ l := hs.objs rfl
  unfold S39 G39
  refine Tells.bs4 ?_
  refine Tells.appendON (g := .full) (H := []) (xs := [vZ (-1), vZ 0, vZ 1, vZ 7]) (ys := zs.map vZ) OwnT.full h (.inl rfl) (hx.elems h) (by rw [List.length_map]; simp only [room, List.length_cons, List.length_nil]; omega) (by omega) vZs_untag vZs_cells ?_
  intro g0 H0 m how0 h
  have e0 : [vZ (-1), vZ 0, vZ 1, vZ 7] ++ zs.map vZ = ([-1, 0, 1, 7] ++ zs).map vZ := by rw [List.map_append]; rfl
  have how1 : OwnT g0 H0 ([-1, 0, 1, 7] ++ zs).length := by rw [List.length_append]; rw [List.length_map] at how0; exact how0
  rw [e0]
  clear how0
  refine Tells.loop (fun j vs m => ∃ (i : Nat) (g : Tag) (H : Heap), i + j = ps.length ∧ vs = [v, w, .list g 1 (([-1, 0, 1, 7] ++ zs ++ (ps.take i).flatMap bothE).map vZ), vI i] ∧ OwnT g H ([-1, 0, 1, 7] ++ zs ++ (ps.take i).flatMap bothE).length ∧ Sep m (H ++ l)) ?_ (i := ps.length) (by omega) ?_
  · rintro j vs m L2 ⟨i, g, H, j1, rfl, how, h⟩ hL
    have hvv := hv.under (H := H)
    unfold S39_2 G39_2
    by_cases hi : i < ps.length
    · obtain ⟨p, hp⟩ : ∃ p, ps[i]? = some p := ⟨_, List.getElem?_eq_getElem hi⟩
      have htk : [-1, 0, 1, 7] ++ zs ++ (ps.take (i + 1)).flatMap bothE = [-1, 0, 1, 7] ++ zs ++ (ps.take i).flatMap bothE ++ [p.1, p.2] := by
        rw [List.take_add_one, hp, List.flatMap_append, ← List.append_assoc]; simp [bothE]
      have hbl := both_len (d := ps.take i)
      rw [List.length_take] at hbl
      have hll : ([-1, 0, 1, 7] ++ zs ++ (ps.take i).flatMap bothE).length = 4 + zs.length + min i ps.length * 2 := by
        rw [List.length_append, List.length_append, hbl]; rfl
      refine .psLen hvv ?_
      refine .lss ?_
      refine .condT (by first | assumption | omega) ?_
      refine .psIdx hvv (j := i) (by rfl) hp ?_; intro ad had
      refine .pa0 ‹_› ?_; intro bd hbd
      refine .pcLoad h ‹_› ?_
      refine .psIdx hvv (j := i) (by rfl) hp ?_; intro ad had
      refine .pa1 ‹_› ?_; intro bd hbd
      refine .pcLoad h ‹_› ?_
      refine .bs2 ?_
      refine Tells.appendON (ys := [vZ p.1, vZ p.2]) (by rw [List.length_map]; exact how) h (.inl rfl) (elems_lst (.inl rfl)) (by rw [List.length_map, hll]; simp only [room, List.length_cons, List.length_nil]; omega) (by omega) (by simp [AV.untag, AV.untag1]) (by simp [AV.cells]) ?_
      intro g' H' m how' h
      refine .stay (by first | exact stayK_nil | (repeat first | exact stayK_nil | refine stayK_cons ?_ ?_ | refine stayK_not ?_ | exact stayN_zero | refine stayN_succ (by rfl) (by first | exact Sep.load1 ‹_› (by first | exact .z | exact .s .z | exact .s (.s .z) | exact .s (.s (.s .z)) | exact .s (.s (.s (.s .z))) | exact .s (.s (.s (.s (.s .z)))) | exact .s (.s (.s (.s (.s (.s .z))))) | exact .s (.s (.s (.s (.s (.s (.s .z)))))) | exact .s (.s (.s (.s (.s (.s (.s (.s .z))))))) | exact .s (.s (.s (.s (.s (.s (.s (.s (.s .z)))))))) | exact .s (.s (.s (.s (.s (.s (.s (.s (.s (.s .z))))))))) | exact .s (.s (.s (.s (.s (.s (.s (.s (.s (.s (.s .z)))))))))) | exact .s (.s (.s (.s (.s (.s (.s (.s (.s (.s (.s (.s .z))))))))))) | exact .s (.s (.s (.s (.s (.s (.s (.s (.s (.s (.s (.s (.s .z))))))))))))) (by rfl) | exact Sep.loadA ‹_› (by first | exact .z | exact .s .z | exact .s (.s .z) | exact .s (.s (.s .z)) | exact .s (.s (.s (.s .z))) | exact .s (.s (.s (.s (.s .z)))) | exact .s (.s (.s (.s (.s (.s .z))))) | exact .s (.s (.s (.s (.s (.s (.s .z)))))) | exact .s (.s (.s (.s (.s (.s (.s (.s .z))))))) | exact .s (.s (.s (.s (.s (.s (.s (.s (.s .z)))))))) | exact .s (.s (.s (.s (.s (.s (.s (.s (.s (.s .z))))))))) | exact .s (.s (.s (.s (.s (.s (.s (.s (.s (.s (.s .z)))))))))) | exact .s (.s (.s (.s (.s (.s (.s (.s (.s (.s (.s (.s .z))))))))))) | exact .s (.s (.s (.s (.s (.s (.s (.s (.s (.s (.s (.s (.s .z))))))))))))) (by rfl) | rfl) ?_)) ?_
      refine .add (by rfl) (by omega) ?_
      refine hL (j - 1) _ _ (by omega) ⟨i + 1, g', H', by omega, ?_, ?_, h⟩
      · rw [htk, List.map_append (l₂ := [p.1, p.2])]; rfl
      · rw [htk, List.length_append (bs := [p.1, p.2])]; rw [List.length_map] at how'; exact how'
    · have hie : i = ps.length := by omega
      subst hie
      rw [List.take_length] at how ⊢
      have hbp := both_len (d := ps)
      refine .psLen hvv ?_
      refine .lss ?_
      refine .condF (by first | assumption | omega) ?_
      refine .blk ?_
      unfold S39_7 G39_7
      refine Tells.loop (fun j vs m => ∃ (i : Nat) (g : Tag) (H : Heap), i + j = qs.length ∧ vs = [w, .list g 1 (([-1, 0, 1, 7] ++ zs ++ ps.flatMap bothE ++ (qs.take i).flatMap bothE).map vZ), vI i] ∧ OwnT g H ([-1, 0, 1, 7] ++ zs ++ ps.flatMap bothE ++ (qs.take i).flatMap bothE).length ∧ Sep m (H ++ l)) ?_ (i := qs.length) (by omega) ?_
      · rintro j vs m L2 ⟨i, g, H, j1, rfl, how, h⟩ hL
        have hvv := hw.under (H := H)
        unfold S39_5 G39_5
        by_cases hi : i < qs.length
        · obtain ⟨p, hp⟩ : ∃ p, qs[i]? = some p := ⟨_, List.getElem?_eq_getElem hi⟩
          have htk : [-1, 0, 1, 7] ++ zs ++ ps.flatMap bothE ++ (qs.take (i + 1)).flatMap bothE = [-1, 0, 1, 7] ++ zs ++ ps.flatMap bothE ++ (qs.take i).flatMap bothE ++ [p.1, p.2] := by
            rw [List.take_add_one, hp, List.flatMap_append, ← List.append_assoc]; simp [bothE]
          have hbl := both_len (d := qs.take i)
          rw [List.length_take] at hbl
          have hll : ([-1, 0, 1, 7] ++ zs ++ ps.flatMap bothE ++ (qs.take i).flatMap bothE).length = 4 + zs.length + ps.length * 2 + min i qs.length * 2 := by
            rw [List.length_append, List.length_append, List.length_append, hbl, hbp]; rfl
          refine .psLen hvv ?_
          refine .lss ?_
          refine .condT (by first | assumption | omega) ?_
          refine .psIdx hvv (j := i) (by rfl) hp ?_; intro ad had
          refine .pa0 ‹_› ?_; intro bd hbd
          refine .pcLoad h ‹_› ?_
          refine .psIdx hvv (j := i) (by rfl) hp ?_; intro ad had
          refine .pa1 ‹_› ?_; intro bd hbd
          refine .pcLoad h ‹_› ?_
          refine .bs2 ?_
          refine Tells.appendON (ys := [vZ p.1, vZ p.2]) (by rw [List.length_map]; exact how) h (.inl rfl) (elems_lst (.inl rfl)) (by rw [List.length_map, hll]; simp only [room, List.length_cons, List.length_nil]; omega) (by omega) (by simp [AV.untag, AV.untag1]) (by simp [AV.cells]) ?_
          intro g' H' m how' h
          refine .stay (by first | exact stayK_nil | (repeat first | exact stayK_nil | refine stayK_cons ?_ ?_ | refine stayK_not ?_ | exact stayN_zero | refine stayN_succ (by rfl) (by first | exact Sep.load1 ‹_› (by first | exact .z | exact .s .z | exact .s (.s .z) | exact .s (.s (.s .z)) | exact .s (.s (.s (.s .z))) | exact .s (.s (.s (.s (.s .z)))) | exact .s (.s (.s (.s (.s (.s .z))))) | exact .s (.s (.s (.s (.s (.s (.s .z)))))) | exact .s (.s (.s (.s (.s (.s (.s (.s .z))))))) | exact .s (.s (.s (.s (.s (.s (.s (.s (.s .z)))))))) | exact .s (.s (.s (.s (.s (.s (.s (.s (.s (.s .z))))))))) | exact .s (.s (.s (.s (.s (.s (.s (.s (.s (.s (.s .z)))))))))) | exact .s (.s (.s (.s (.s (.s (.s (.s (.s (.s (.s (.s .z))))))))))) | exact .s (.s (.s (.s (.s (.s (.s (.s (.s (.s (.s (.s (.s .z))))))))))))) (by rfl) | exact Sep.loadA ‹_› (by first | exact .z | exact .s .z | exact .s (.s .z) | exact .s (.s (.s .z)) | exact .s (.s (.s (.s .z))) | exact .s (.s (.s (.s (.s .z)))) | exact .s (.s (.s (.s (.s (.s .z))))) | exact .s (.s (.s (.s (.s (.s (.s .z)))))) | exact .s (.s (.s (.s (.s (.s (.s (.s .z))))))) | exact .s (.s (.s (.s (.s (.s (.s (.s (.s .z)))))))) | exact .s (.s (.s (.s (.s (.s (.s (.s (.s (.s .z))))))))) | exact .s (.s (.s (.s (.s (.s (.s (.s (.s (.s (.s .z)))))))))) | exact .s (.s (.s (.s (.s (.s (.s (.s (.s (.s (.s (.s .z))))))))))) | exact .s (.s (.s (.s (.s (.s (.s (.s (.s (.s (.s (.s (.s .z))))))))))))) (by rfl) | rfl) ?_)) ?_
          refine .add (by rfl) (by omega) ?_
          refine hL (j - 1) _ _ (by omega) ⟨i + 1, g', H', by omega, ?_, ?_, h⟩
          · rw [htk, List.map_append (l₂ := [p.1, p.2])]; rfl
          · rw [htk, List.length_append (bs := [p.1, p.2])]; rw [List.length_map] at how'; exact how'
        · have hie : i = qs.length := by omega
          subst hie
          rw [List.take_length] at how ⊢
          refine .psLen hvv ?_
          refine .lss ?_
          refine .condF (by first | assumption | omega) ?_
          refine .blk ?_
          refine Tells.ret rfl rfl ?_
          intro m hobj
          exact ⟨rfl, (h.objs hobj).right⟩
      · exact ⟨0, g, H, by omega, by rw [List.take_zero, List.flatMap_nil, List.append_nil]; rfl, by rw [List.take_zero, List.flatMap_nil, List.append_nil]; exact how, h⟩
  · exact ⟨0, g0, H0, by omega, by rw [List.take_zero, List.flatMap_nil, List.append_nil]; rfl, by rw [List.take_zero, List.flatMap_nil, List.append_nil]; exact how1, h⟩
end Go.Proofs.P17
namespace Go.Proofs.P17
set_option linter.all false
open Go Go.Am
attribute [local irreducible] loadK storeK newK boxK tipK makeMapK buildTK buildK buildSliceK nilK binK unK condK convK eqvK pickK gK gDK vK extractK fieldK lookupK mapUpdateK appendK min2K max2K retK makeSliceK freezeK bytesK loopV blkK stayK sameK rangeK callK aFieldAddr aIndexAddr aIndexAddrA aLen aIndex aSlice

/-- All that the law makes, and what is known of it. -/
structure Sc (L : Heap) (ps qs : List (Int × Int)) (zs : List Int) (v w x l u c o r p : AV) : Prop where
  hv : PSl v L ps
  hw : PSl w L qs
  hx : ISl x L zs
  hl : PSl l L (ofP ps)
  hu : PSl u L (ofP (ps ++ qs))
  hc : PSl c L (ofP (ps ++ cloL zs))
  ho : PSl o L (wioL ps zs)
  hr : ISl r L (relL ps zs)
  hp : ISl p L (plcL zs)
  lp : ps.length ≤ 40
  lq : qs.length ≤ 40
  lz : zs.length ≤ 40

section
variable {L : Heap} {ps qs : List (Int × Int)} {zs : List Int} {v w x l u c o r p : AV}
theorem cloL_len : (cloL zs).length ≤ zs.length * zs.length := cloTo_len
theorem Sc.lens (s : Sc L ps qs zs v w x l u c o r p) : (ofP ps).length < 4294967296 ∧ (ofP (ps ++ qs)).length < 4294967296 ∧ (ofP (ps ++ cloL zs)).length < 4294967296 ∧ (wioL ps zs).length < 4294967296 ∧ (relL ps zs).length < 4294967296 ∧ (plcL zs).length < 4294967296 := by
  have h1 := s.lp
  have h2 := s.lq
  have h3 := s.lz
  have a1 := ofP_len (ps := ps)
  have a2 := ofP_len (ps := ps ++ qs)
  have a3 := ofP_len (ps := ps ++ cloL zs)
  have a4 : (wioL ps zs).length ≤ (ofP ps).length := List.length_filter_le _ _
  have a5 := plcL_len (zs := plcL zs ++ (goods ps).flatMap (relP (plcL zs)))
  have a6 := plcL_len (zs := zs)
  have a7 := relP_len (own := plcL zs) (d := goods ps)
  have a8 := goods_len (ps := ps)
  have a9 := cloL_len (zs := zs)
  have a10 : zs.length * zs.length ≤ 40 * 40 := Nat.mul_le_mul h3 h3
  rw [List.length_append] at a2 a3 a5
  unfold relL
  omega

set_option maxHeartbeats 16000000 in
theorem body8_1 (s : Sc L ps qs zs v w x l u c o r p) {es : List Int} {a b : Int} {k : Nat} (hb : es[k]? = some b) (hle : es.length ≤ 1000) {n : Nat} {kn : KN} {kx : KX} {P : AV → Mem → Prop} {g1 g2 y6 : AV} {m : Mem} (h : Sep m L)
    (hk : ∀ m', Sep m' L → Tells (kn [(0, v), (1, w), (2, x), (7, g1), (8, g2), (9, l), (10, u), (11, c), (12, o), (13, r), (14, p), (15, .list .shared 1 (es.map vZ)), (16, y6), (17, vZ a), (18, vI (k + 1 : Nat))] m') P) :
    Tells (S8_1 (Am.Call T) n kn kx v w x g1 g2 l u c o r p (.list .shared 1 (es.map vZ)) y6 (vZ a) (vI k) m) P := by
  have hke := (List.getElem?_eq_some_iff.1 hb).1
  have hgb : (es.map vZ)[k]? = some (vZ b) := by rw [List.getElem?_map, hb]; rfl
  obtain ⟨l1, l2, l3, l4, l5, l6⟩ := s.lens
  have h1 := s.lp
  have h2 := s.lq
  have h3 := s.lz
  have fp : ps.length < 4294967296 := by omega
  have fq : qs.length < 4294967296 := by omega
  have fz : zs.length < 4294967296 := by omega
  unfold S8_1 G8_1
  refine Tells.indexL (j := k) rfl hgb ?_
  refine Tells.loadC1 rfl ?_
  cases hB : hasR ps a b with
  | true =>
    refine Tells.c31 s.hv fp hB h ?_
    intro m h
    refine Tells.c42 s.hv fp hB h ?_
    intro m h
    obtain ⟨J, hJ⟩ : ∃ J, inR zs b = J := ⟨_, rfl⟩
    obtain ⟨Q, hQ⟩ : ∃ Q, hasR qs a b = Q := ⟨_, rfl⟩
    cases hI : inR zs a with
    | true =>
      refine .eqbF (by rfl) ?_
      refine .gff ?_
      refine .gff ?_
      refine .gff ?_
      refine .gff ?_
      refine .c31 s.hl l1 (bb := true) (hasR_ofP.trans hB) h ?_
      intro m h
      refine .gff ?_
      refine .gff ?_
      refine .eqbF (by rfl) ?_
      refine .pickff ?_
      refine .gff ?_
      refine .gff ?_
      refine .gff ?_
      refine .gff ?_
      refine .c31 s.hu l2 (bb := true) (by rw [hasR_ofP, hasR_app, hB]; rfl) h ?_
      intro m h
      refine .gff ?_
      refine .gff ?_
      refine .gtf ?_
      refine .gtf ?_
      refine .gtf ?_
      refine .gtf ?_
      refine .gff ?_
      refine .picktt ?_
      refine .gff ?_
      refine .eqbF (by rfl) ?_
      refine .pickff ?_
      refine .gff ?_
      refine .gff ?_
      refine .gff ?_
      refine .gff ?_
      refine .c31 s.hc l3 (bb := true) (by rw [hasR_ofP, hasR_app, hB]; rfl) h ?_
      intro m h
      refine .gff ?_
      refine .gff ?_
      refine .gtf ?_
      refine .gtf ?_
      refine .gtf ?_
      refine .gtf ?_
      refine .gN ?_
      refine .gN ?_
      refine .gN ?_
      refine .gtf ?_
      refine .gtf ?_
      refine .gN ?_
      refine .gN ?_
      refine .gN ?_
      refine .gtf ?_
      refine .gff ?_
      refine .picktt ?_
      refine .gff ?_
      refine .eqbF (by rfl) ?_
      refine .pickff ?_
      refine .gff ?_
      refine .gff ?_
      refine .gff ?_
      refine .gff ?_
      refine .c31 s.ho l4 (bb := false) (by rw [hasR_wio, hB]; rw [hI]; rfl) h ?_
      intro m h
      refine .gff ?_
      refine .gff ?_
      refine .gtt ?_
      refine .gtt ?_
      refine .gtt ?_
      refine .c40 s.hx fz hI h ?_
      intro m h
      refine .gtt ?_
      refine .not ?_
      refine .gff ?_
      refine .picktt ?_
      refine .gff ?_
      refine .gft ?_
      refine .gft ?_
      refine .gft ?_
      refine .gft ?_
      refine .gff ?_
      refine .pickff ?_
      refine .gff ?_
      refine .eqbF (by rfl) ?_
      refine .pickff ?_
      refine .condff ?_
      refine .add (by rfl) (by omega) ?_
      exact hk m h
    | false =>
      refine .eqbF (by rfl) ?_
      refine .gff ?_
      refine .gff ?_
      refine .gff ?_
      refine .gff ?_
      refine .c31 s.hl l1 (bb := true) (hasR_ofP.trans hB) h ?_
      intro m h
      refine .gff ?_
      refine .gff ?_
      refine .eqbF (by rfl) ?_
      refine .pickff ?_
      refine .gff ?_
      refine .gff ?_
      refine .gff ?_
      refine .gff ?_
      refine .c31 s.hu l2 (bb := true) (by rw [hasR_ofP, hasR_app, hB]; rfl) h ?_
      intro m h
      refine .gff ?_
      refine .gff ?_
      refine .gtf ?_
      refine .gtf ?_
      refine .gtf ?_
      refine .gtf ?_
      refine .gff ?_
      refine .picktt ?_
      refine .gff ?_
      refine .eqbF (by rfl) ?_
      refine .pickff ?_
      refine .gff ?_
      refine .gff ?_
      refine .gff ?_
      refine .gff ?_
      refine .c31 s.hc l3 (bb := true) (by rw [hasR_ofP, hasR_app, hB]; rfl) h ?_
      intro m h
      refine .gff ?_
      refine .gff ?_
      refine .gtf ?_
      refine .gtf ?_
      refine .gtf ?_
      refine .gtf ?_
      refine .gN ?_
      refine .gN ?_
      refine .gN ?_
      refine .gtf ?_
      refine .gtf ?_
      refine .gN ?_
      refine .gN ?_
      refine .gN ?_
      refine .gtf ?_
      refine .gff ?_
      refine .picktt ?_
      refine .gff ?_
      refine .eqbF (by rfl) ?_
      refine .pickff ?_
      refine .gff ?_
      refine .gff ?_
      refine .gff ?_
      refine .gff ?_
      refine .c31 s.ho l4 (bb := !J) (by rw [hasR_wio, hB]; rw [hI, hJ]; rfl) h ?_
      intro m h
      refine .gff ?_
      refine .gff ?_
      refine .gtt ?_
      refine .gtt ?_
      refine .gtt ?_
      refine .c40 s.hx fz hI h ?_
      intro m h
      refine .gtt ?_
      refine .not ?_
      refine .gff ?_
      refine .picktt ?_
      refine .gff ?_
      refine .gtt ?_
      refine .gtt ?_
      refine .gtt ?_
      refine .c40 s.hx fz hJ h ?_
      intro m h
      refine .gtt ?_
      refine .not ?_
      refine .gff ?_
      refine .picktt ?_
      refine .gff ?_
      refine .eqbF (by rfl) ?_
      refine .pickff ?_
      refine .condff ?_
      refine .add (by rfl) (by omega) ?_
      exact hk m h
  | false =>
    refine Tells.c31 s.hv fp hB h ?_
    intro m h
    refine Tells.c42 s.hv fp hB h ?_
    intro m h
    obtain ⟨J, hJ⟩ : ∃ J, inR zs b = J := ⟨_, rfl⟩
    obtain ⟨Q, hQ⟩ : ∃ Q, hasR qs a b = Q := ⟨_, rfl⟩
    by_cases hab : a = b
    · refine .eqbF (by rfl) ?_
      refine .gff ?_
      refine .gff ?_
      refine .gff ?_
      refine .gff ?_
      refine .c31 s.hl l1 (bb := false) (hasR_ofP.trans hB) h ?_
      intro m h
      refine .gff ?_
      refine .gff ?_
      refine .eqbF (by rfl) ?_
      refine .pickff ?_
      refine .gff ?_
      refine .gff ?_
      refine .gff ?_
      refine .gff ?_
      refine .c31 s.hu l2 (bb := Q) (by rw [hasR_ofP, hasR_app, hB]; rw [hQ]; rfl) h ?_
      intro m h
      refine .gff ?_
      refine .gff ?_
      refine .gff ?_
      refine .gff ?_
      refine .gff ?_
      refine .gff ?_
      refine .c31 s.hw fq hQ h ?_
      intro m h
      refine .gff ?_
      refine .pickff ?_
      refine .gff ?_
      refine .eqbF (by rfl) ?_
      refine .pickff ?_
      refine .gff ?_
      refine .gff ?_
      refine .gff ?_
      refine .gff ?_
      refine .c31 s.hc l3 (bb := false) (by rw [hasR_ofP, hasR_app, hB]; rw [hasR_clo, decide_eq_false (fun e => e hab)]; rfl) h ?_
      intro m h
      refine .gff ?_
      refine .gff ?_
      refine .gff ?_
      refine .gff ?_
      refine .gff ?_
      refine .neq ?_
      refine .gff ?_
      refine .gFT (by rfl) (by first | assumption | omega) ?_
      refine .gFT (by rfl) (by first | assumption | omega) ?_
      refine .gFT (by rfl) (by first | assumption | omega) ?_
      refine .gff ?_
      refine .pickF (by first | assumption | omega) ?_
      refine .gff ?_
      refine .gft ?_
      refine .gft ?_
      refine .gft ?_
      refine .gff ?_
      refine .pickff ?_
      refine .gff ?_
      refine .pickff ?_
      refine .gff ?_
      refine .eqbF (by rfl) ?_
      refine .pickff ?_
      refine .gff ?_
      refine .gff ?_
      refine .gff ?_
      refine .gff ?_
      refine .c31 s.ho l4 (bb := false) (by rw [hasR_wio, hB]; rfl) h ?_
      intro m h
      refine .gff ?_
      refine .gff ?_
      refine .gft ?_
      refine .gft ?_
      refine .gft ?_
      refine .gft ?_
      refine .gff ?_
      refine .pickff ?_
      refine .gff ?_
      refine .gft ?_
      refine .gft ?_
      refine .gft ?_
      refine .gft ?_
      refine .gff ?_
      refine .pickff ?_
      refine .gff ?_
      refine .eqbF (by rfl) ?_
      refine .pickff ?_
      refine .condff ?_
      refine .add (by rfl) (by omega) ?_
      exact hk m h
    · have hab' : decide (a ≠ b) = true := decide_eq_true hab
      cases hI : inR zs a with
      | true =>
        refine .eqbF (by rfl) ?_
        refine .gff ?_
        refine .gff ?_
        refine .gff ?_
        refine .gff ?_
        refine .c31 s.hl l1 (bb := false) (hasR_ofP.trans hB) h ?_
        intro m h
        refine .gff ?_
        refine .gff ?_
        refine .eqbF (by rfl) ?_
        refine .pickff ?_
        refine .gff ?_
        refine .gff ?_
        refine .gff ?_
        refine .gff ?_
        refine .c31 s.hu l2 (bb := Q) (by rw [hasR_ofP, hasR_app, hB]; rw [hQ]; rfl) h ?_
        intro m h
        refine .gff ?_
        refine .gff ?_
        refine .gff ?_
        refine .gff ?_
        refine .gff ?_
        refine .gff ?_
        refine .c31 s.hw fq hQ h ?_
        intro m h
        refine .gff ?_
        refine .pickff ?_
        refine .gff ?_
        refine .eqbF (by rfl) ?_
        refine .pickff ?_
        refine .gff ?_
        refine .gff ?_
        refine .gff ?_
        refine .gff ?_
        refine .c31 s.hc l3 (bb := J) (by rw [hasR_ofP, hasR_app, hB]; rw [hasR_clo, hab', hI, hJ]; rfl) h ?_
        intro m h
        refine .gff ?_
        refine .gff ?_
        refine .gff ?_
        refine .gff ?_
        refine .gff ?_
        refine .neq ?_
        refine .gff ?_
        refine .gT (by rfl) (by first | assumption | omega) ?_
        refine .gT (by rfl) (by first | assumption | omega) ?_
        refine .gT (by rfl) (by first | assumption | omega) ?_
        refine .c40 s.hx fz hI h ?_
        intro m h
        refine .gff ?_
        refine .pickT (by first | assumption | omega) ?_
        refine .gff ?_
        refine .gtt ?_
        refine .gtt ?_
        refine .gtt ?_
        refine .c40 s.hx fz hJ h ?_
        intro m h
        refine .gff ?_
        refine .picktt ?_
        refine .gff ?_
        refine .pickff ?_
        refine .gff ?_
        refine .eqbF (by rfl) ?_
        refine .pickff ?_
        refine .gff ?_
        refine .gff ?_
        refine .gff ?_
        refine .gff ?_
        refine .c31 s.ho l4 (bb := false) (by rw [hasR_wio, hB]; rfl) h ?_
        intro m h
        refine .gff ?_
        refine .gff ?_
        refine .gft ?_
        refine .gft ?_
        refine .gft ?_
        refine .gft ?_
        refine .gff ?_
        refine .pickff ?_
        refine .gff ?_
        refine .gft ?_
        refine .gft ?_
        refine .gft ?_
        refine .gft ?_
        refine .gff ?_
        refine .pickff ?_
        refine .gff ?_
        refine .eqbF (by rfl) ?_
        refine .pickff ?_
        refine .condff ?_
        refine .add (by rfl) (by omega) ?_
        exact hk m h
      | false =>
        refine .eqbF (by rfl) ?_
        refine .gff ?_
        refine .gff ?_
        refine .gff ?_
        refine .gff ?_
        refine .c31 s.hl l1 (bb := false) (hasR_ofP.trans hB) h ?_
        intro m h
        refine .gff ?_
        refine .gff ?_
        refine .eqbF (by rfl) ?_
        refine .pickff ?_
        refine .gff ?_
        refine .gff ?_
        refine .gff ?_
        refine .gff ?_
        refine .c31 s.hu l2 (bb := Q) (by rw [hasR_ofP, hasR_app, hB]; rw [hQ]; rfl) h ?_
        intro m h
        refine .gff ?_
        refine .gff ?_
        refine .gff ?_
        refine .gff ?_
        refine .gff ?_
        refine .gff ?_
        refine .c31 s.hw fq hQ h ?_
        intro m h
        refine .gff ?_
        refine .pickff ?_
        refine .gff ?_
        refine .eqbF (by rfl) ?_
        refine .pickff ?_
        refine .gff ?_
        refine .gff ?_
        refine .gff ?_
        refine .gff ?_
        refine .c31 s.hc l3 (bb := false) (by rw [hasR_ofP, hasR_app, hB]; rw [hasR_clo, hab', hI]; rfl) h ?_
        intro m h
        refine .gff ?_
        refine .gff ?_
        refine .gff ?_
        refine .gff ?_
        refine .gff ?_
        refine .neq ?_
        refine .gff ?_
        refine .gT (by rfl) (by first | assumption | omega) ?_
        refine .gT (by rfl) (by first | assumption | omega) ?_
        refine .gT (by rfl) (by first | assumption | omega) ?_
        refine .c40 s.hx fz hI h ?_
        intro m h
        refine .gff ?_
        refine .pickT (by first | assumption | omega) ?_
        refine .gff ?_
        refine .gft ?_
        refine .gft ?_
        refine .gft ?_
        refine .gff ?_
        refine .pickff ?_
        refine .gff ?_
        refine .pickff ?_
        refine .gff ?_
        refine .eqbF (by rfl) ?_
        refine .pickff ?_
        refine .gff ?_
        refine .gff ?_
        refine .gff ?_
        refine .gff ?_
        refine .c31 s.ho l4 (bb := false) (by rw [hasR_wio, hB]; rfl) h ?_
        intro m h
        refine .gff ?_
        refine .gff ?_
        refine .gft ?_
        refine .gft ?_
        refine .gft ?_
        refine .gft ?_
        refine .gff ?_
        refine .pickff ?_
        refine .gff ?_
        refine .gft ?_
        refine .gft ?_
        refine .gft ?_
        refine .gft ?_
        refine .gff ?_
        refine .pickff ?_
        refine .gff ?_
        refine .eqbF (by rfl) ?_
        refine .pickff ?_
        refine .condff ?_
        refine .add (by rfl) (by omega) ?_
        exact hk m h
end
end Go.Proofs.P17
