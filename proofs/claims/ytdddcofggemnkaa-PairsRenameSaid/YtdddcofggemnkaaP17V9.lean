/- The walk through the law of renamed pairs. -/
import Derived.Test.YtdddcofggemnkaaP17V8
namespace Go.Proofs.P17
set_option linter.all false
open Go Go.Am
attribute [local irreducible] loadK storeK newK boxK tipK makeMapK buildTK buildK buildSliceK nilK binK unK condK convK eqvK pickK gK gDK vK extractK fieldK lookupK mapUpdateK appendK min2K max2K retK makeSliceK freezeK bytesK loopV blkK stayK sameK rangeK callK aFieldAddr aIndexAddr aIndexAddrA aLen aIndex aSlice

theorem RowR.psl' {x : AV} {H l : Heap} {ps : List (Int × Int)} (h : RowR x H 2 (ps.map pV)) (hu : x.untag = x) : PSl x (H ++ l) ps := by
  have := RowR.psl (x := x) (l := l) (by rw [hu]; exact h)
  rwa [hu] at this
theorem _root_.Go.Am.Sep.psl {m : Mem} {l : Heap} {v : AV} {ps : List (Int × Int)} (_h : Sep m l) (hv : IsPs v ps) : PSl v l ps := .inl hv
theorem ofP_len {ps : List (Int × Int)} : (ofP ps).length ≤ ps.length := by
  have h1 : (ofP ps).length ≤ (sortP (goods ps)).length := compTo_le
  have h2 : (sortP (goods ps)).length = (goods ps).length := List.length_mergeSort _
  have h3 := goods_len (ps := ps)
  omega
theorem PSl.skip {x : AV} {o : Nat × AObj} {l : Heap} {ps : List (Int × Int)} (h : PSl x l ps) : PSl x (o :: l) ps := by
  rcases h with h | ⟨id, ver, cs, h1, h2, h3⟩
  · exact .inl h
  · exact .inr ⟨id, ver, cs, h1, .s h2, h3⟩
theorem wantP_len {zs : List Int} {d : List (Int × Int)} : (d.flatMap (wantP zs)).length ≤ d.length := by
  induction d with
  | nil => exact Nat.le_refl _
  | cons p d ih =>
    simp only [List.flatMap_cons, List.length_append, List.length_cons]
    have : (wantP zs p).length ≤ 1 := by unfold wantP; split <;> simp
    omega

set_option maxHeartbeats 8000000 in
theorem call7 {m : Mem} {v w : AV} {ps : List (Int × Int)} {zs : List Int} (hv : IsPs v ps) (hw : IsZs w zs) (hs : Sep m []) :
    Tells (Am.Call T 7 [v, w] m) fun x _ => x = .bool true := by
  have hvu : v.untag = v := by obtain ⟨k, rfl, _⟩ := hv; rfl
  have hwu : w.untag = w := by obtain ⟨k, rfl, _⟩ := hw; rfl
  refine Tells.fn (ps.length + 2) rfl F7_ok rfl ?_
  show Tells (S7 (Am.Call T) (ps.length + 2) m v w) _
  have h : Sep ⟨m.objs, none⟩ [] := hs.objs rfl
  unfold S7 G7
  obtain ⟨kw, rfl, hkw⟩ := hw
  have hlw : (zs.map vZ).length = zs.length := List.length_map _
  refine Tells.psLen (h.psl hv) ?_
  refine .lenL ?_
  refine .bs2 ?_
  rw [hlw]
  refine Tells.call (args := [.list .shared 1 [vI ps.length, vI zs.length]]) rfl (call27 (zs := [(ps.length : Int), (zs.length : Int)]) ⟨1, rfl, .inl rfl⟩ (by simp) h) ?_
  rintro _ m ⟨rfl, h⟩
  by_cases hg : 40 < (ps.length : Int) ∨ 40 < (zs.length : Int)
  · have hg' : ([(ps.length : Int), (zs.length : Int)].any fun z => decide (40 < z)) = true := by
      simp only [List.any_cons, List.any_nil, Bool.or_false, Bool.or_eq_true, decide_eq_true_eq]; exact hg
    rw [hg']
    refine Tells.condtt ?_
    refine Tells.call (args := []) rfl (call28 h) ?_
    rintro _ m ⟨rfl, h⟩
    refine Tells.ret1 rfl ?_
    intro m' hobj
    rfl
  have hg' : ([(ps.length : Int), (zs.length : Int)].any fun z => decide (40 < z)) = false := by
    simp only [List.any_cons, List.any_nil, Bool.or_false, Bool.or_eq_false_iff, decide_eq_false_iff_not]; omega
  have hlen : ps.length < 4294967296 := by omega
  rw [hg']
  refine Tells.condff ?_
  unfold S7_17 G7_17
  refine Tells.call (args := [v, .list .shared kw (zs.map vZ)]) (by simp [hvu]; rfl) (call29 hv ⟨kw, rfl, hkw⟩ hlen h) ?_
  rintro r m ⟨hru, H, hr, h⟩
  refine Tells.tip h ?_
  intro t m h
  have hrl : (ofP (renL zs ps)).length ≤ ps.length := by
    have h1 := ofP_len (ps := renL zs ps)
    have h2 := renL_len (zs := zs) (d := goods ps)
    have h3 := goods_len (ps := ps)
    unfold renL at h1 ⊢
    omega
  refine Tells.loop (fun j vs m => ∃ i : Nat, i + j = ps.length ∧ vs = [v, .list .shared kw (zs.map vZ), r, .list (.own t) 2 ((wantL zs (ps.take i)).map pV), vI i] ∧ Sep m ((t, .tip (wantL zs (ps.take i)).length) :: (H ++ []))) ?_ (i := ps.length) (by omega) ?_
  · rintro j vs m L2 ⟨i, j1, rfl, h⟩ hL
    have hpv := h.psl hv
    unfold S7_4 G7_4
    by_cases hi : i < ps.length
    · obtain ⟨p, hp⟩ : ∃ p, ps[i]? = some p := ⟨_, List.getElem?_eq_getElem hi⟩
      have htk : wantL zs (ps.take (i + 1)) = wantL zs (ps.take i) ++ wantP zs p := by
        rw [List.take_add_one, hp]; unfold wantL; rw [List.flatMap_append]; simp
      have hwl := wantP_len (zs := zs) (d := ps.take i)
      rw [List.length_take] at hwl
      replace hwl : (wantL zs (ps.take i)).length ≤ min i ps.length := hwl
      have no : ¬ (0 ≤ p.1 ∧ 0 ≤ p.2 ∧ p.1 ≠ p.2 ∧ p.1 < zs.length ∧ p.2 < zs.length) → wantL zs (ps.take (i + 1)) = wantL zs (ps.take i) := fun hn => by
        rw [htk]; unfold wantP; rw [if_neg hn, List.append_nil]
      by_cases c1 : 0 ≤ p.1
      · by_cases c2 : 0 ≤ p.2
        · by_cases c3 : p.1 = p.2
          · refine .psLen hpv ?_
            refine .lss ?_
            refine .condT (by first | assumption | omega) ?_
            refine .psIdx hpv (j := i) (by rfl) hp ?_; intro ad had
            refine .pa0 ‹_› ?_; intro bd hbd
            refine .pcLoad h ‹_› ?_
            refine .psIdx hpv (j := i) (by rfl) hp ?_; intro ad had
            refine .pa1 ‹_› ?_; intro bd hbd
            refine .pcLoad h ‹_› ?_
            refine .geq ?_
            refine .gT (by rfl) (by first | assumption | omega) ?_
            refine .gT (by rfl) (by first | assumption | omega) ?_
            refine .geq ?_
            refine .pickT (by first | assumption | omega) ?_
            refine .gT (by rfl) (by first | assumption | omega) ?_
            refine .gT (by rfl) (by first | assumption | omega) ?_
            refine .gT (by rfl) (by first | assumption | omega) ?_
            refine .neq ?_
            refine .pickT (by first | assumption | omega) ?_
            refine .gFT (by rfl) (by first | assumption | omega) ?_
            refine .gFT (by rfl) (by first | assumption | omega) ?_
            refine .gFT (by rfl) (by first | assumption | omega) ?_
            refine .gFT (by rfl) (by first | assumption | omega) ?_
            refine .pickF (by first | assumption | omega) ?_
            refine .gft ?_
            refine .gft ?_
            refine .gft ?_
            refine .gft ?_
            refine .pickff ?_
            refine .condff ?_
            refine .add (by rfl) (by omega) ?_
            exact hL (j - 1) _ _ (by omega) ⟨i + 1, by omega, by rw [no (by omega)]; rfl, by rw [no (by omega)]; exact h⟩
          · by_cases c4 : p.1 < zs.length
            · by_cases c5 : p.2 < zs.length
              · obtain ⟨za, ha⟩ : ∃ z, zs[p.1.toNat]? = some z := ⟨_, List.getElem?_eq_getElem (by omega)⟩
                obtain ⟨zb, hb⟩ : ∃ z, zs[p.2.toNat]? = some z := ⟨_, List.getElem?_eq_getElem (by omega)⟩
                have hk1 : kw = 1 := hkw.resolve_right (by intro e; rw [e] at c4; simp at c4; omega)
                subst hk1
                have hga : (zs.map vZ)[p.1.toNat]? = some (vZ za) := by rw [List.getElem?_map, ha]; rfl
                have hgb : (zs.map vZ)[p.2.toNat]? = some (vZ zb) := by rw [List.getElem?_map, hb]; rfl
                have hwt : wantP zs p = [(za, zb)] := by unfold wantP; rw [if_pos ⟨c1, c2, c3, c4, c5⟩, ha, hb]; rfl
                refine .psLen hpv ?_
                refine .lss ?_
                refine .condT (by first | assumption | omega) ?_
                refine .psIdx hpv (j := i) (by rfl) hp ?_; intro ad had
                refine .pa0 ‹_› ?_; intro bd hbd
                refine .pcLoad h ‹_› ?_
                refine .psIdx hpv (j := i) (by rfl) hp ?_; intro ad had
                refine .pa1 ‹_› ?_; intro bd hbd
                refine .pcLoad h ‹_› ?_
                refine .geq ?_
                refine .gT (by rfl) (by first | assumption | omega) ?_
                refine .gT (by rfl) (by first | assumption | omega) ?_
                refine .geq ?_
                refine .pickT (by first | assumption | omega) ?_
                refine .gT (by rfl) (by first | assumption | omega) ?_
                refine .gT (by rfl) (by first | assumption | omega) ?_
                refine .gT (by rfl) (by first | assumption | omega) ?_
                refine .neq ?_
                refine .pickT (by first | assumption | omega) ?_
                refine .gT (by rfl) (by first | assumption | omega) ?_
                refine .gT (by rfl) (by first | assumption | omega) ?_
                refine .gT (by rfl) (by first | assumption | omega) ?_
                refine .lenL ?_
                refine .gT (by rfl) (by first | assumption | omega) ?_
                refine .lss ?_
                refine .pickT (by first | assumption | omega) ?_
                refine .gT (by rfl) (by first | assumption | omega) ?_
                refine .gT (by rfl) (by first | assumption | omega) ?_
                refine .gT (by rfl) (by first | assumption | omega) ?_
                refine .lenL ?_
                refine .gT (by rfl) (by first | assumption | omega) ?_
                refine .lss ?_
                refine .pickT (by first | assumption | omega) ?_
                refine .condT (by first | assumption | omega) ?_
                refine .indexL (j := p.1.toNat) (by omega) hga ?_
                refine .loadC1 (by rfl) ?_
                refine .indexL (j := p.2.toNat) (by omega) hgb ?_
                refine .loadC1 (by rfl) ?_
                refine .build2 ?_
                refine .bsA (by rfl) (by rfl) (by rfl) (by decide) (by decide) ?_
                refine Tells.append1 (n := 2) (y := pV (za, zb)) (j := (wantL zs (ps.take i)).length) h .z (by rw [List.length_map]) (by simp only [room]; omega) (by omega) rfl rfl ?_
                intro m h
                refine .stay (by first | exact stayK_nil | (repeat first | exact stayK_nil | refine stayK_cons ?_ ?_ | refine stayK_not ?_ | exact stayN_zero | refine stayN_succ (by rfl) (by first | exact Sep.load1 ‹_› (by first | exact .z | exact .s .z | exact .s (.s .z) | exact .s (.s (.s .z)) | exact .s (.s (.s (.s .z))) | exact .s (.s (.s (.s (.s .z)))) | exact .s (.s (.s (.s (.s (.s .z))))) | exact .s (.s (.s (.s (.s (.s (.s .z)))))) | exact .s (.s (.s (.s (.s (.s (.s (.s .z))))))) | exact .s (.s (.s (.s (.s (.s (.s (.s (.s .z)))))))) | exact .s (.s (.s (.s (.s (.s (.s (.s (.s (.s .z))))))))) | exact .s (.s (.s (.s (.s (.s (.s (.s (.s (.s (.s .z)))))))))) | exact .s (.s (.s (.s (.s (.s (.s (.s (.s (.s (.s (.s .z))))))))))) | exact .s (.s (.s (.s (.s (.s (.s (.s (.s (.s (.s (.s (.s .z))))))))))))) (by rfl) | exact Sep.loadA ‹_› (by first | exact .z | exact .s .z | exact .s (.s .z) | exact .s (.s (.s .z)) | exact .s (.s (.s (.s .z))) | exact .s (.s (.s (.s (.s .z)))) | exact .s (.s (.s (.s (.s (.s .z))))) | exact .s (.s (.s (.s (.s (.s (.s .z)))))) | exact .s (.s (.s (.s (.s (.s (.s (.s .z))))))) | exact .s (.s (.s (.s (.s (.s (.s (.s (.s .z)))))))) | exact .s (.s (.s (.s (.s (.s (.s (.s (.s (.s .z))))))))) | exact .s (.s (.s (.s (.s (.s (.s (.s (.s (.s (.s .z)))))))))) | exact .s (.s (.s (.s (.s (.s (.s (.s (.s (.s (.s (.s .z))))))))))) | exact .s (.s (.s (.s (.s (.s (.s (.s (.s (.s (.s (.s (.s .z))))))))))))) (by rfl) | rfl) ?_)) ?_
                refine .add (by rfl) (by omega) ?_
                refine hL (j - 1) _ _ (by omega) ⟨i + 1, by omega, ?_, ?_⟩
                · rw [htk, hwt, List.map_append]; rfl
                · rw [htk, hwt, List.length_append]; exact h
              · refine .psLen hpv ?_
                refine .lss ?_
                refine .condT (by first | assumption | omega) ?_
                refine .psIdx hpv (j := i) (by rfl) hp ?_; intro ad had
                refine .pa0 ‹_› ?_; intro bd hbd
                refine .pcLoad h ‹_› ?_
                refine .psIdx hpv (j := i) (by rfl) hp ?_; intro ad had
                refine .pa1 ‹_› ?_; intro bd hbd
                refine .pcLoad h ‹_› ?_
                refine .geq ?_
                refine .gT (by rfl) (by first | assumption | omega) ?_
                refine .gT (by rfl) (by first | assumption | omega) ?_
                refine .geq ?_
                refine .pickT (by first | assumption | omega) ?_
                refine .gT (by rfl) (by first | assumption | omega) ?_
                refine .gT (by rfl) (by first | assumption | omega) ?_
                refine .gT (by rfl) (by first | assumption | omega) ?_
                refine .neq ?_
                refine .pickT (by first | assumption | omega) ?_
                refine .gT (by rfl) (by first | assumption | omega) ?_
                refine .gT (by rfl) (by first | assumption | omega) ?_
                refine .gT (by rfl) (by first | assumption | omega) ?_
                refine .lenL ?_
                refine .gT (by rfl) (by first | assumption | omega) ?_
                refine .lss ?_
                refine .pickT (by first | assumption | omega) ?_
                refine .gT (by rfl) (by first | assumption | omega) ?_
                refine .gT (by rfl) (by first | assumption | omega) ?_
                refine .gT (by rfl) (by first | assumption | omega) ?_
                refine .lenL ?_
                refine .gT (by rfl) (by first | assumption | omega) ?_
                refine .lss ?_
                refine .pickT (by first | assumption | omega) ?_
                refine .condF (by first | assumption | omega) ?_
                refine .add (by rfl) (by omega) ?_
                exact hL (j - 1) _ _ (by omega) ⟨i + 1, by omega, by rw [no (by omega)]; rfl, by rw [no (by omega)]; exact h⟩
            · refine .psLen hpv ?_
              refine .lss ?_
              refine .condT (by first | assumption | omega) ?_
              refine .psIdx hpv (j := i) (by rfl) hp ?_; intro ad had
              refine .pa0 ‹_› ?_; intro bd hbd
              refine .pcLoad h ‹_› ?_
              refine .psIdx hpv (j := i) (by rfl) hp ?_; intro ad had
              refine .pa1 ‹_› ?_; intro bd hbd
              refine .pcLoad h ‹_› ?_
              refine .geq ?_
              refine .gT (by rfl) (by first | assumption | omega) ?_
              refine .gT (by rfl) (by first | assumption | omega) ?_
              refine .geq ?_
              refine .pickT (by first | assumption | omega) ?_
              refine .gT (by rfl) (by first | assumption | omega) ?_
              refine .gT (by rfl) (by first | assumption | omega) ?_
              refine .gT (by rfl) (by first | assumption | omega) ?_
              refine .neq ?_
              refine .pickT (by first | assumption | omega) ?_
              refine .gT (by rfl) (by first | assumption | omega) ?_
              refine .gT (by rfl) (by first | assumption | omega) ?_
              refine .gT (by rfl) (by first | assumption | omega) ?_
              refine .lenL ?_
              refine .gT (by rfl) (by first | assumption | omega) ?_
              refine .lss ?_
              refine .pickT (by first | assumption | omega) ?_
              refine .gFT (by rfl) (by first | assumption | omega) ?_
              refine .gFT (by rfl) (by first | assumption | omega) ?_
              refine .gFT (by rfl) (by first | assumption | omega) ?_
              refine .gFT (by rfl) (by first | assumption | omega) ?_
              refine .pickF (by first | assumption | omega) ?_
              refine .condff ?_
              refine .add (by rfl) (by omega) ?_
              exact hL (j - 1) _ _ (by omega) ⟨i + 1, by omega, by rw [no (by omega)]; rfl, by rw [no (by omega)]; exact h⟩
        · refine .psLen hpv ?_
          refine .lss ?_
          refine .condT (by first | assumption | omega) ?_
          refine .psIdx hpv (j := i) (by rfl) hp ?_; intro ad had
          refine .pa0 ‹_› ?_; intro bd hbd
          refine .pcLoad h ‹_› ?_
          refine .psIdx hpv (j := i) (by rfl) hp ?_; intro ad had
          refine .pa1 ‹_› ?_; intro bd hbd
          refine .pcLoad h ‹_› ?_
          refine .geq ?_
          refine .gT (by rfl) (by first | assumption | omega) ?_
          refine .gT (by rfl) (by first | assumption | omega) ?_
          refine .geq ?_
          refine .pickT (by first | assumption | omega) ?_
          refine .gFT (by rfl) (by first | assumption | omega) ?_
          refine .gFT (by rfl) (by first | assumption | omega) ?_
          refine .gFT (by rfl) (by first | assumption | omega) ?_
          refine .pickF (by first | assumption | omega) ?_
          refine .gft ?_
          refine .gft ?_
          refine .gft ?_
          refine .gft ?_
          refine .pickff ?_
          refine .gft ?_
          refine .gft ?_
          refine .gft ?_
          refine .gft ?_
          refine .pickff ?_
          refine .condff ?_
          refine .add (by rfl) (by omega) ?_
          exact hL (j - 1) _ _ (by omega) ⟨i + 1, by omega, by rw [no (by omega)]; rfl, by rw [no (by omega)]; exact h⟩
      · refine .psLen hpv ?_
        refine .lss ?_
        refine .condT (by first | assumption | omega) ?_
        refine .psIdx hpv (j := i) (by rfl) hp ?_; intro ad had
        refine .pa0 ‹_› ?_; intro bd hbd
        refine .pcLoad h ‹_› ?_
        refine .psIdx hpv (j := i) (by rfl) hp ?_; intro ad had
        refine .pa1 ‹_› ?_; intro bd hbd
        refine .pcLoad h ‹_› ?_
        refine .geq ?_
        refine .gFT (by rfl) (by first | assumption | omega) ?_
        refine .gFT (by rfl) (by first | assumption | omega) ?_
        refine .pickF (by first | assumption | omega) ?_
        refine .gft ?_
        refine .gft ?_
        refine .gft ?_
        refine .pickff ?_
        refine .gft ?_
        refine .gft ?_
        refine .gft ?_
        refine .gft ?_
        refine .pickff ?_
        refine .gft ?_
        refine .gft ?_
        refine .gft ?_
        refine .gft ?_
        refine .pickff ?_
        refine .condff ?_
        refine .add (by rfl) (by omega) ?_
        exact hL (j - 1) _ _ (by omega) ⟨i + 1, by omega, by rw [no (by omega)]; rfl, by rw [no (by omega)]; exact h⟩
    · have hi : i = ps.length := by omega
      subst hi
      rw [List.take_length] at h ⊢
      refine .psLen hpv ?_
      refine .lss ?_
      refine .condF (by first | assumption | omega) ?_
      refine .blk ?_
      unfold S7_16 G7_16
      have hpr := PSl.skip (o := (t, .tip (wantL zs ps).length)) (hr.psl' (l := []) hru)
      refine Tells.call (args := [r]) (by simp [hru]) (call30 hpr (by omega) ofP_form h) ?_
      rintro _ m ⟨rfl, h⟩
      refine .not ?_
      refine .condff ?_
      unfold S7_15 G7_15
      have hpw : PSl (.list .shared 2 ((wantL zs ps).map pV)) ((t, AObj.tip (wantL zs ps).length) :: (H ++ [])) (wantL zs ps) := .inl ⟨2, rfl, .inl rfl⟩
      have hwl := wantP_len (zs := zs) (d := ps)
      replace hwl : (wantL zs ps).length ≤ ps.length := hwl
      have hwm : ((wantL zs ps).map pV).length = (wantL zs ps).length := List.length_map _
      refine Tells.loop (fun j vs m => ∃ i : Nat, i + j = (ofP (renL zs ps)).length ∧ vs = [r, .list (.own t) 2 ((wantL zs ps).map pV), vI i] ∧ Sep m ((t, .tip (wantL zs ps).length) :: (H ++ []))) ?_ (i := (ofP (renL zs ps)).length) (by omega) ?_
      · rintro j vs m L2 ⟨i, j1, rfl, h⟩ hL
        unfold S7_8 G7_8
        by_cases hi : i < (ofP (renL zs ps)).length
        · obtain ⟨p, hp⟩ : ∃ p, (ofP (renL zs ps))[i]? = some p := ⟨_, List.getElem?_eq_getElem hi⟩
          have hpm : hasR (wantL zs ps) p.1 p.2 = true := ren_want.symm.trans (ofP_hasR (List.mem_of_getElem? hp))
          refine .psLen hpr ?_
          refine .lss ?_
          refine .condT (by first | assumption | omega) ?_
          refine .psIdx hpr (j := i) (by rfl) hp ?_; intro ad had
          refine .pa0 ‹_› ?_; intro bd hbd
          refine .pcLoad h ‹_› ?_
          refine .psIdx hpr (j := i) (by rfl) hp ?_; intro ad had
          refine .pa1 ‹_› ?_; intro bd hbd
          refine .pcLoad h ‹_› ?_
          refine Tells.call (args := [.list .shared 2 ((wantL zs ps).map pV), vZ p.1, vZ p.2]) rfl (call31 hpw (by omega) h) ?_
          rintro _ m ⟨rfl, h⟩
          rw [hpm]
          refine .not ?_
          refine .stay (by first | exact stayK_nil | (repeat first | exact stayK_nil | refine stayK_cons ?_ ?_ | refine stayK_not ?_ | exact stayN_zero | refine stayN_succ (by rfl) (by first | exact Sep.load1 ‹_› (by first | exact .z | exact .s .z | exact .s (.s .z) | exact .s (.s (.s .z)) | exact .s (.s (.s (.s .z))) | exact .s (.s (.s (.s (.s .z)))) | exact .s (.s (.s (.s (.s (.s .z))))) | exact .s (.s (.s (.s (.s (.s (.s .z)))))) | exact .s (.s (.s (.s (.s (.s (.s (.s .z))))))) | exact .s (.s (.s (.s (.s (.s (.s (.s (.s .z)))))))) | exact .s (.s (.s (.s (.s (.s (.s (.s (.s (.s .z))))))))) | exact .s (.s (.s (.s (.s (.s (.s (.s (.s (.s (.s .z)))))))))) | exact .s (.s (.s (.s (.s (.s (.s (.s (.s (.s (.s (.s .z))))))))))) | exact .s (.s (.s (.s (.s (.s (.s (.s (.s (.s (.s (.s (.s .z))))))))))))) (by rfl) | exact Sep.loadA ‹_› (by first | exact .z | exact .s .z | exact .s (.s .z) | exact .s (.s (.s .z)) | exact .s (.s (.s (.s .z))) | exact .s (.s (.s (.s (.s .z)))) | exact .s (.s (.s (.s (.s (.s .z))))) | exact .s (.s (.s (.s (.s (.s (.s .z)))))) | exact .s (.s (.s (.s (.s (.s (.s (.s .z))))))) | exact .s (.s (.s (.s (.s (.s (.s (.s (.s .z)))))))) | exact .s (.s (.s (.s (.s (.s (.s (.s (.s (.s .z))))))))) | exact .s (.s (.s (.s (.s (.s (.s (.s (.s (.s (.s .z)))))))))) | exact .s (.s (.s (.s (.s (.s (.s (.s (.s (.s (.s (.s .z))))))))))) | exact .s (.s (.s (.s (.s (.s (.s (.s (.s (.s (.s (.s (.s .z))))))))))))) (by rfl) | rfl) ?_)) ?_
          refine .condff ?_
          refine .add (by rfl) (by omega) ?_
          exact hL (j - 1) _ _ (by omega) ⟨i + 1, by omega, rfl, h⟩
        · have hi : i = (ofP (renL zs ps)).length := by omega
          subst hi
          refine .psLen hpr ?_
          refine .lss ?_
          refine .condF (by first | assumption | omega) ?_
          refine .blk ?_
          unfold S7_14 G7_14
          refine Tells.loop (fun j vs m => ∃ i : Nat, i + j = (wantL zs ps).length ∧ vs = [r, .list (.own t) 2 ((wantL zs ps).map pV), vI i] ∧ Sep m ((t, .tip (wantL zs ps).length) :: (H ++ []))) ?_ (i := (wantL zs ps).length) (by omega) ?_
          · rintro j vs m L2 ⟨i, j1, rfl, h⟩ hL
            unfold S7_12 G7_12
            by_cases hi : i < (wantL zs ps).length
            · obtain ⟨p, hp⟩ : ∃ p, (wantL zs ps)[i]? = some p := ⟨_, List.getElem?_eq_getElem hi⟩
              have hgp : ((wantL zs ps).map pV)[i]? = some (pV p) := by rw [List.getElem?_map, hp]; rfl
              have hpe : hasR (ofP (renL zs ps)) p.1 p.2 = hasR (wantL zs ps) p.1 p.2 := hasR_ofP.trans ren_want
              refine .lenL ?_
              refine .lss ?_
              refine .condT (by first | assumption | omega) ?_
              refine .indexL (j := i) (by rfl) hgp ?_
              refine .pa0 (l := (t, AObj.tip (wantL zs ps).length) :: (H ++ [])) (p := p) (.inl rfl) ?_; intro bd hbd
              refine .pcLoad h ‹_› ?_
              refine .indexL (j := i) (by rfl) hgp ?_
              refine .pa1 (l := (t, AObj.tip (wantL zs ps).length) :: (H ++ [])) (p := p) (.inl rfl) ?_; intro bd hbd
              refine .pcLoad h ‹_› ?_
              refine Tells.call (args := [.list .shared 2 ((wantL zs ps).map pV), vZ p.1, vZ p.2]) rfl (call31 hpw (by omega) h) ?_
              rintro _ m ⟨rfl, h⟩
              cases hq : hasR (wantL zs ps) p.1 p.2 with
              | true =>
                refine .gtt ?_
                refine .gtt ?_
                refine .gtt ?_
                refine .gtt ?_
                refine Tells.call (args := [r, vZ p.1, vZ p.2]) (by simp [hru]; exact ⟨rfl, rfl⟩) (call31 hpr (by omega) h) ?_
                rintro _ m ⟨rfl, h⟩
                rw [hpe, hq]
                refine .gtt ?_
                refine .not ?_
                refine .picktt ?_
                refine .condff ?_
                refine .add (by rfl) (by omega) ?_
                exact hL (j - 1) _ _ (by omega) ⟨i + 1, by omega, rfl, h⟩
              | false =>
                refine .gft ?_
                refine .gft ?_
                refine .gft ?_
                refine .gft ?_
                refine .gft ?_
                refine .pickff ?_
                refine .condff ?_
                refine .add (by rfl) (by omega) ?_
                exact hL (j - 1) _ _ (by omega) ⟨i + 1, by omega, rfl, h⟩
            · have hi : i = (wantL zs ps).length := by omega
              subst hi
              refine .lenL ?_
              refine .lss ?_
              refine .condF (by first | assumption | omega) ?_
              refine .blk ?_
              refine Tells.keep rfl ?_
              unfold S7_13 G7_13
              refine Tells.call (args := []) rfl (call28 h) ?_
              rintro _ m ⟨rfl, h⟩
              refine Tells.ret1 rfl ?_
              intro m' hobj
              rfl
          · exact ⟨0, by omega, rfl, h⟩
      · exact ⟨0, by omega, rfl, h⟩
  · exact ⟨0, by omega, rfl, h⟩
end Go.Proofs.P17
