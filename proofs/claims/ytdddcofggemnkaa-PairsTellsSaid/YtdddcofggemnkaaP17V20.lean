/- The walk through the law of pairs: its loops. -/
import Derived.Test.YtdddcofggemnkaaP17V18
namespace Go.Proofs.P17
set_option linter.all false
open Go Go.Am
attribute [local irreducible] loadK storeK newK boxK tipK makeMapK buildTK buildK buildSliceK nilK binK unK condK convK eqvK pickK gK gDK vK extractK fieldK lookupK mapUpdateK appendK min2K max2K retK makeSliceK freezeK bytesK loopV blkK stayK sameK rangeK callK aFieldAddr aIndexAddr aIndexAddrA aLen aIndex aSlice

theorem _root_.Go.Am.Tells.eqPs {P : AV → Mem → Prop} {p q : Int × Int} {k : AV → Rho} (hk : Tells (k (.bool (decide (¬ p = q)))) P) : Tells (eqvK ⟨[.i, .i], true⟩ true (.agg [.int .i64 p.1, .int .i64 p.2]) (.agg [.int .i64 q.1, .int .i64 q.2]) k) P := Tells.eqPt hk
section
variable {L : Heap} {ps qs : List (Int × Int)} {zs : List Int} {v w x l u c o r p : AV}

set_option maxHeartbeats 8000000 in
theorem loop8_3 (s : Sc L ps qs zs v w x l u c o r p) {es : List Int} {a : Int} {i : Nat} (hi : i < es.length) (hle : es.length ≤ 1000) {n : Nat} (hn : es.length + 1 < n) {kn : KN} {kx : KX} {P : AV → Mem → Prop} {g1 g2 : AV} {m : Mem} (h : Sep m L)
    (hk : ∀ m', Sep m' L → Tells (kn [(0, v), (1, w), (2, x), (7, g1), (8, g2), (9, l), (10, u), (11, c), (12, o), (13, r), (14, p), (15, .list .shared 1 (es.map vZ)), (16, vI (i + 1 : Nat))] m') P) :
    Tells (S8_3 (Am.Call T) n kn kx v w x g1 g2 l u c o r p (.list .shared 1 (es.map vZ)) (vI i) (vZ a) m) P := by
  have hlen : (es.map vZ).length = es.length := List.length_map _
  unfold S8_3 G8_3
  refine Tells.loop (fun j vs m => ∃ k : Nat, k + j = es.length ∧ vs = [v, w, x, g1, g2, l, u, c, o, r, p, .list .shared 1 (es.map vZ), vI i, vZ a, vI k] ∧ Sep m L) ?_ (i := es.length) (by omega) ?_
  · rintro j vs m L2 ⟨k, j1, rfl, h⟩ hL
    unfold S8_2 G8_2
    refine Tells.lenL ?_
    rw [hlen]
    by_cases hk2 : k < es.length
    · refine Tells.lss ?_
      refine Tells.condT (by omega) ?_
      refine body8_1 s (List.getElem?_eq_getElem hk2) hle h ?_
      intro m h
      exact hL (j - 1) _ _ (by omega) ⟨k + 1, by omega, rfl, h⟩
    · refine .lss ?_
      refine .condF (by first | assumption | omega) ?_
      refine .blk ?_
      refine .add (by rfl) (by omega) ?_
      exact hk _ h
  · exact ⟨0, by omega, rfl, h⟩

set_option maxHeartbeats 8000000 in
theorem body8_5 (s : Sc L ps qs zs v w x l u c o r p) {es : List Int} {i : Nat} (hi : i < es.length) (hle : es.length ≤ 1000) {n : Nat} (hn : es.length + 1 < n) {kn : KN} {kx : KX} {P : AV → Mem → Prop} {g1 g2 : AV} {m : Mem} (h : Sep m L)
    (hk : ∀ m', Sep m' L → Tells (kn [(0, v), (1, w), (2, x), (7, g1), (8, g2), (9, l), (10, u), (11, c), (12, o), (13, r), (14, p), (15, .list .shared 1 (es.map vZ)), (16, vI (i + 1 : Nat))] m') P) :
    Tells (S8_5 (Am.Call T) n kn kx v w x g1 g2 l u c o r p (.list .shared 1 (es.map vZ)) (vI i) m) P := by
  obtain ⟨a, ha⟩ : ∃ a, es[i]? = some a := ⟨_, List.getElem?_eq_getElem hi⟩
  have hga : (es.map vZ)[i]? = some (vZ a) := by rw [List.getElem?_map, ha]; rfl
  obtain ⟨l1, l2, l3, l4, l5, l6⟩ := s.lens
  have h1 := s.lp
  have h3 := s.lz
  have fp : ps.length < 4294967296 := by omega
  have fz : zs.length < 4294967296 := by omega
  obtain ⟨R, hR⟩ : ∃ R, relR ps zs a = R := ⟨_, rfl⟩
  obtain ⟨I, hI⟩ : ∃ I, inR zs a = I := ⟨_, rfl⟩
  unfold S8_5 G8_5
  refine Tells.indexL (j := i) rfl hga ?_
  refine .loadC1 (by rfl) ?_
  refine .c40 s.hr l5 (bb := R) (rel_in.trans hR) h ?_
  intro m h
  refine .c41 s.hv s.hx fp fz hR h ?_
  intro m h
  refine .eqbF (by rfl) ?_
  refine .gff ?_
  refine .gff ?_
  refine .gff ?_
  refine .c40 s.hp l6 (bb := I) (inR_plc.trans hI) h ?_
  intro m h
  refine .gff ?_
  refine .gff ?_
  refine .gff ?_
  refine .c40 s.hx fz hI h ?_
  intro m h
  refine .gff ?_
  refine .eqbF (by rfl) ?_
  refine .pickff ?_
  refine .condff ?_
  exact loop8_3 s hi hle hn h hk

set_option maxHeartbeats 8000000 in
theorem tail8_20 (s : Sc L ps qs zs v w x l u c o r p) {g : Tag} {n : Nat} (hn : 1000 < n) {m0 m : Mem} (h : Sep m L) :
    Tells (S8_20 (Am.Call T) n m0 x (.list g 1 (zs.map vZ)) l (vI (ofP ps).length) m) fun r _ => r = .bool true := by
  have h3 := s.lz
  unfold S8_20 G8_20
  refine Tells.loop (fun j vs m => ∃ k : Nat, k + j = zs.length ∧ vs = [x, .list g 1 (zs.map vZ), l, vI (ofP ps).length, vI k] ∧ Sep m L) ?_ (i := zs.length) (by omega) ?_
  · rintro j vs m L2 ⟨k, j1, rfl, h⟩ hL
    unfold S8_18 G8_18
    by_cases hk2 : k < zs.length
    · obtain ⟨a, ha⟩ : ∃ a, zs[k]? = some a := ⟨_, List.getElem?_eq_getElem hk2⟩
      have hga : (zs.map vZ)[k]? = some (vZ a) := by rw [List.getElem?_map, ha]; rfl
      have ee : ¬ ¬ a = a := fun e => e rfl
      refine .isLen s.hx ?_
      refine .lss ?_
      refine .condT (by first | assumption | omega) ?_
      refine .isIdx s.hx (j := k) (by rfl) ha ?_; intro ad had
      refine .iaLoad h ‹_› ?_
      refine .indexL (j := k) (by rfl) hga ?_
      refine .loadC1 (by rfl) ?_
      refine .neq ?_
      refine .condF (by first | assumption | omega) ?_
      refine .add (by rfl) (by omega) ?_
      exact hL (j - 1) _ _ (by omega) ⟨k + 1, by omega, rfl, h⟩
    · refine .isLen s.hx ?_
      refine .lss ?_
      refine .condF (by first | assumption | omega) ?_
      refine .blk ?_
      unfold S8_19 G8_19
      refine Tells.psLen s.hl ?_
      refine Tells.eql ?_
      refine Tells.gT rfl rfl ?_
      refine Tells.call (args := []) rfl (call28 h) ?_
      rintro _ m ⟨rfl, h⟩
      refine Tells.pickT rfl ?_
      refine Tells.ret1 rfl ?_
      intro m' hobj
      rfl
  · exact ⟨0, by omega, rfl, h⟩

set_option maxHeartbeats 8000000 in
theorem tail8_21 (s : Sc L ps qs zs v w x l u c o r p) {g g' : Tag} {n : Nat} (hn : 1000 < n) {m0 m : Mem} (h : Sep m L) :
    Tells (S8_21 (Am.Call T) n m0 v x (.list g' 2 (ps.map pV)) (.list g 1 (zs.map vZ)) l (vI (ofP ps).length) m) fun r _ => r = .bool true := by
  have h3 := s.lp
  unfold S8_21 G8_21
  refine Tells.loop (fun j vs m => ∃ k : Nat, k + j = ps.length ∧ vs = [v, x, .list g' 2 (ps.map pV), .list g 1 (zs.map vZ), l, vI (ofP ps).length, vI k] ∧ Sep m L) ?_ (i := ps.length) (by omega) ?_
  · rintro j vs m L2 ⟨k, j1, rfl, h⟩ hL
    unfold S8_14 G8_14
    by_cases hk2 : k < ps.length
    · obtain ⟨a, ha⟩ : ∃ a, ps[k]? = some a := ⟨_, List.getElem?_eq_getElem hk2⟩
      have hga : (ps.map pV)[k]? = some (pV a) := by rw [List.getElem?_map, ha]; rfl
      have ee : ¬ ¬ a = a := fun e => e rfl
      refine .psLen s.hv ?_
      refine .lss ?_
      refine .condT (by first | assumption | omega) ?_
      refine .psIdx s.hv (j := k) (by rfl) ha ?_; intro ad had
      refine .paLoad h ‹_› ?_
      refine .indexL (j := k) (by rfl) hga ?_
      refine .loadCA (by rfl) ?_
      refine .eqPs ?_
      refine .condF (by first | assumption | omega) ?_
      refine .add (by rfl) (by omega) ?_
      exact hL (j - 1) _ _ (by omega) ⟨k + 1, by omega, rfl, h⟩
    · refine .psLen s.hv ?_
      refine .lss ?_
      refine .condF (by first | assumption | omega) ?_
      refine .blk ?_
      exact tail8_20 s hn h
  · exact ⟨0, by omega, rfl, h⟩

set_option maxHeartbeats 8000000 in
theorem tail8_22 (s : Sc L ps qs zs v w x l u c o r p) {g g' : Tag} {n : Nat} (hn : 1000 < n) {m0 m : Mem} (h : Sep m L) :
    Tells (S8_22 (Am.Call T) n m0 v x (.list g' 2 (ps.map pV)) (.list g 1 (zs.map vZ)) l m) fun r _ => r = .bool true := by
  have h3 := s.lp
  have h4 := ofP_len (ps := ps)
  unfold S8_22 G8_22
  refine Tells.loop (fun j vs m => ∃ k : Nat, k + j = (ofP ps).length ∧ vs = [v, x, .list g' 2 (ps.map pV), .list g 1 (zs.map vZ), l, vI k, vI k] ∧ Sep m L) ?_ (i := (ofP ps).length) (by omega) ?_
  · rintro j vs m L2 ⟨k, j1, rfl, h⟩ hL
    unfold S8_10 G8_10
    by_cases hk2 : k < (ofP ps).length
    · obtain ⟨a, ha⟩ : ∃ a, (ofP ps)[k]? = some a := ⟨_, List.getElem?_eq_getElem hk2⟩
      have hha : hasR ps a.1 a.2 = true := ofP_hasR (List.mem_of_getElem? ha)
      refine .psLen s.hl ?_
      refine .lss ?_
      refine .condT (by first | assumption | omega) ?_
      refine .psIdx s.hl (j := k) (by rfl) ha ?_; intro ad had
      refine .pa0 ‹_› ?_; intro bd hbd
      refine .pcLoad h ‹_› ?_
      refine .psIdx s.hl (j := k) (by rfl) ha ?_; intro ad had
      refine .pa1 ‹_› ?_; intro bd hbd
      refine .pcLoad h ‹_› ?_
      refine .c31 s.hv (by omega) hha h ?_
      intro m h
      refine .stay (by first | exact stayK_nil | (repeat first | exact stayK_nil | refine stayK_cons ?_ ?_ | refine stayK_not ?_ | exact stayN_zero | refine stayN_succ (by rfl) (by first | exact Sep.load1 ‹_› (by first | exact .z | exact .s .z | exact .s (.s .z) | exact .s (.s (.s .z)) | exact .s (.s (.s (.s .z))) | exact .s (.s (.s (.s (.s .z)))) | exact .s (.s (.s (.s (.s (.s .z))))) | exact .s (.s (.s (.s (.s (.s (.s .z)))))) | exact .s (.s (.s (.s (.s (.s (.s (.s .z))))))) | exact .s (.s (.s (.s (.s (.s (.s (.s (.s .z)))))))) | exact .s (.s (.s (.s (.s (.s (.s (.s (.s (.s .z))))))))) | exact .s (.s (.s (.s (.s (.s (.s (.s (.s (.s (.s .z)))))))))) | exact .s (.s (.s (.s (.s (.s (.s (.s (.s (.s (.s (.s .z))))))))))) | exact .s (.s (.s (.s (.s (.s (.s (.s (.s (.s (.s (.s (.s .z))))))))))))) (by rfl) | exact Sep.loadA ‹_› (by first | exact .z | exact .s .z | exact .s (.s .z) | exact .s (.s (.s .z)) | exact .s (.s (.s (.s .z))) | exact .s (.s (.s (.s (.s .z)))) | exact .s (.s (.s (.s (.s (.s .z))))) | exact .s (.s (.s (.s (.s (.s (.s .z)))))) | exact .s (.s (.s (.s (.s (.s (.s (.s .z))))))) | exact .s (.s (.s (.s (.s (.s (.s (.s (.s .z)))))))) | exact .s (.s (.s (.s (.s (.s (.s (.s (.s (.s .z))))))))) | exact .s (.s (.s (.s (.s (.s (.s (.s (.s (.s (.s .z)))))))))) | exact .s (.s (.s (.s (.s (.s (.s (.s (.s (.s (.s (.s .z))))))))))) | exact .s (.s (.s (.s (.s (.s (.s (.s (.s (.s (.s (.s (.s .z))))))))))))) (by rfl) | rfl) ?_)) ?_
      refine .condtt ?_
      refine .add (by rfl) (by omega) ?_
      refine .add (by rfl) (by omega) ?_
      exact hL (j - 1) _ _ (by omega) ⟨k + 1, by omega, rfl, h⟩
    · have hke : k = (ofP ps).length := by omega
      subst hke
      refine .psLen s.hl ?_
      refine .lss ?_
      refine .condF (by first | assumption | omega) ?_
      refine .blk ?_
      exact tail8_21 s hn h
  · exact ⟨0, by omega, rfl, h⟩
end
end Go.Proofs.P17
namespace Go.Proofs.P17
set_option linter.all false
open Go Go.Am
attribute [local irreducible] loadK storeK newK boxK tipK makeMapK buildTK buildK buildSliceK nilK binK unK condK convK eqvK pickK gK gDK vK extractK fieldK lookupK mapUpdateK appendK min2K max2K retK makeSliceK freezeK bytesK loopV blkK stayK sameK rangeK callK aFieldAddr aIndexAddr aIndexAddrA aLen aIndex aSlice

theorem endsL_len {ps qs : List (Int × Int)} {zs : List Int} : (endsL ps qs zs).length = 4 + zs.length + ps.length * 2 + qs.length * 2 := by
  have h1 := both_len (d := ps)
  have h2 := both_len (d := qs)
  unfold endsL
  rw [List.length_append, List.length_append, List.length_append, h1, h2]
  rfl

set_option maxHeartbeats 8000000 in
theorem tail8_23 {L : Heap} {ps qs : List (Int × Int)} {zs : List Int} {v w x l u c o r p : AV} (s : Sc L ps qs zs v w x l u c o r p) {g g' : Tag} {n : Nat} (hn : 1000 < n) {m0 m : Mem} (h : Sep m L) :
    Tells (S8_23 (Am.Call T) n m0 v w x (.list g' 2 (ps.map pV)) (.list g 1 (zs.map vZ)) l u c o r p m) fun r _ => r = .bool true := by
  have h1 := s.lp
  have h2 := s.lq
  have h3 := s.lz
  have hel := endsL_len (ps := ps) (qs := qs) (zs := zs)
  have hlen : ((endsL ps qs zs).map vZ).length = (endsL ps qs zs).length := List.length_map _
  unfold S8_23 G8_23
  refine Tells.call (args := [v, w, x]) (by simp [s.hv.untag, s.hw.untag, s.hx.untag]) (call39 s.hv s.hw s.hx (by omega) (by omega) (by omega) h) ?_
  rintro _ m ⟨rfl, h⟩
  refine Tells.loop (fun j vs m => ∃ k : Nat, k + j = (endsL ps qs zs).length ∧ vs = [v, w, x, .list g' 2 (ps.map pV), .list g 1 (zs.map vZ), l, u, c, o, r, p, .list .shared 1 ((endsL ps qs zs).map vZ), vI k] ∧ Sep m L) ?_ (i := (endsL ps qs zs).length) (by omega) ?_
  · rintro j vs m L2 ⟨k, j1, rfl, h⟩ hL
    unfold S8_6 G8_6
    refine Tells.lenL ?_
    rw [hlen]
    by_cases hk2 : k < (endsL ps qs zs).length
    · refine Tells.lss ?_
      refine Tells.condT (by omega) ?_
      refine body8_5 s hk2 (by omega) (by omega) h ?_
      intro m h
      exact hL (j - 1) _ _ (by omega) ⟨k + 1, by omega, rfl, h⟩
    · refine .lss ?_
      refine .condF (by first | assumption | omega) ?_
      refine .blk ?_
      exact tail8_22 s hn h
  · exact ⟨0, by omega, rfl, h⟩

set_option maxHeartbeats 8000000 in
theorem call8 {m : Mem} {v w x : AV} {ps qs : List (Int × Int)} {zs : List Int} (hv : IsPs v ps) (hw : IsPs w qs) (hx : IsZs x zs) (hs : Sep m []) :
    Tells (Am.Call T 8 [v, w, x] m) fun x _ => x = .bool true := by
  refine Tells.fn 1001 rfl F8_ok rfl ?_
  show Tells (S8 (Am.Call T) 1001 m v w x) _
  have h : Sep ⟨m.objs, none⟩ [] := hs.objs rfl
  unfold S8 G8
  have pv : PSl v [] ps := .inl hv
  have pw : PSl w [] qs := .inl hw
  have px : ISl x [] zs := .inl hx
  refine Tells.psLen pv ?_
  refine Tells.psLen pw ?_
  refine Tells.isLen px ?_
  refine Tells.bs3 ?_
  refine Tells.call (args := [.list .shared 1 [vI ps.length, vI qs.length, vI zs.length]]) rfl (call27 (zs := [(ps.length : Int), (qs.length : Int), (zs.length : Int)]) ⟨1, rfl, .inl rfl⟩ (by simp) h) ?_
  rintro _ m ⟨rfl, h⟩
  by_cases hg : 40 < (ps.length : Int) ∨ 40 < (qs.length : Int) ∨ 40 < (zs.length : Int)
  · have hg' : ([(ps.length : Int), (qs.length : Int), (zs.length : Int)].any fun z => decide (40 < z)) = true := by
      simp only [List.any_cons, List.any_nil, Bool.or_false, Bool.or_eq_true, decide_eq_true_eq]; exact hg
    rw [hg']
    refine Tells.condtt ?_
    refine Tells.call (args := []) rfl (call28 h) ?_
    rintro _ m ⟨rfl, h⟩
    refine Tells.ret1 rfl ?_
    intro m' hobj
    rfl
  have hg' : ([(ps.length : Int), (qs.length : Int), (zs.length : Int)].any fun z => decide (40 < z)) = false := by
    simp only [List.any_cons, List.any_nil, Bool.or_false, Bool.or_eq_false_iff, decide_eq_false_iff_not]; omega
  have lp : ps.length ≤ 40 := by omega
  have lq : qs.length ≤ 40 := by omega
  have lz : zs.length ≤ 40 := by omega
  rw [hg']
  refine Tells.condff ?_
  unfold S8_24 G8_24
  have h : Sep m ([] ++ []) := h
  refine Tells.appendON (g := .full) (H := []) (xs := []) OwnT.full h (.inr rfl) (pv.elems h) (by rw [List.length_map]; simp only [room, List.length_nil]; omega) (by omega) pVs_untag pVs_cells ?_
  intro g1 H1 m _ h
  refine Tells.appendON (g := .full) (H := []) (xs := []) (l := H1 ++ []) OwnT.full h (.inr rfl) (px.under.elems h) (by rw [List.length_map]; simp only [room, List.length_nil]; omega) (by omega) vZs_untag vZs_cells ?_
  intro g2 H2 m _ h
  rw [List.nil_append, List.nil_append]
  generalize hL0 : H2 ++ (H1 ++ []) = L0 at h
  have pv : PSl v L0 ps := .inl hv
  have pw : PSl w L0 qs := .inl hw
  have px : ISl x L0 zs := .inl hx
  refine Tells.call (args := [v]) (by simp [pv.untag]) (call32u pv (by omega) h) ?_
  rintro l m ⟨lu, H3, hl, h⟩
  refine Tells.call (args := [v, w]) (by simp [pv.untag, pw.untag]) (call33 pv.under pw.under (by omega) h) ?_
  rintro u m ⟨uu, H4, hu, h⟩
  refine Tells.call (args := [v, x]) (by simp [pv.untag, px.untag]) (call34 pv.under.under hx (by omega) lz h) ?_
  rintro c m ⟨cu, H5, hc, h⟩
  refine Tells.call (args := [v, x]) (by simp [pv.untag, px.untag]) (call35 pv.under.under.under px.under.under.under (by omega) (by omega) h) ?_
  rintro o m ⟨ou, H6, ho, h⟩
  refine Tells.call (args := [v, x]) (by simp [pv.untag, px.untag]) (call36 pv.under.under.under.under px.under.under.under.under (by omega) (by omega) h) ?_
  rintro r m ⟨ru, H7, hr, h⟩
  refine Tells.call (args := [x]) (by simp [px.untag]) (call37 px.under.under.under.under.under (by omega) h) ?_
  rintro p m ⟨pu, H8, hp, h⟩
  have s : Sc (H8 ++ (H7 ++ (H6 ++ (H5 ++ (H4 ++ (H3 ++ L0)))))) ps qs zs v w x l u c o r p :=
    ⟨pv.under.under.under.under.under.under, pw.under.under.under.under.under.under, px.under.under.under.under.under.under,
     (hl.psl' lu).under.under.under.under.under, (hu.psl' uu).under.under.under.under, (hc.psl' cu).under.under.under, (ho.psl' ou).under.under, (hr.isl ru).under, hp.isl pu, lp, lq, lz⟩
  generalize H8 ++ (H7 ++ (H6 ++ (H5 ++ (H4 ++ (H3 ++ L0))))) = L at h s
  obtain ⟨l1, l2, l3, l4, l5, l6⟩ := s.lens
  refine .c30 s.hl l1 ofP_form h ?_
  intro m h
  refine .not ?_
  refine .gff ?_
  refine .gff ?_
  refine .c30 s.hu l2 ofP_form h ?_
  intro m h
  refine .gff ?_
  refine .not ?_
  refine .pickff ?_
  refine .gff ?_
  refine .gff ?_
  refine .c30 s.hc l3 ofP_form h ?_
  intro m h
  refine .gff ?_
  refine .not ?_
  refine .pickff ?_
  refine .gff ?_
  refine .gff ?_
  refine .c30 s.ho l4 wio_form h ?_
  intro m h
  refine .gff ?_
  refine .not ?_
  refine .pickff ?_
  refine .gff ?_
  refine .gff ?_
  refine .c38 s.hr l5 rel_rise h ?_
  intro m h
  refine .gff ?_
  refine .not ?_
  refine .pickff ?_
  refine .gff ?_
  refine .gff ?_
  refine .c38 s.hp l6 plc_rise h ?_
  intro m h
  refine .gff ?_
  refine .not ?_
  refine .pickff ?_
  refine .condff ?_
  exact tail8_23 s (by omega) h
end Go.Proofs.P17
