/- The walk through PosTells, to its end. -/
import Derived.Test.YtdddcofggemnkaaP16W18
namespace Go.Proofs.P16
set_option linter.unusedSimpArgs false
set_option linter.unusedVariables false
set_option linter.unusedSectionVars false
set_option linter.unnecessarySimpa false
open Go Go.Am Go.Bdd
attribute [local irreducible] loadK storeK newK boxK tipK makeMapK buildTK buildK buildSliceK nilK binK unK condK convK eqvK pickK gK gDK vK extractK fieldK lookupK mapUpdateK appendK min2K max2K retK makeSliceK freezeK bytesK loopV blkK stayK sameK rangeK callK aFieldAddr aIndexAddr aIndexAddrA aLen aIndex aSlice
attribute [local irreducible] S4_15 S4_14 S4_13 S4_16 S4_17

set_option maxHeartbeats 8000000 in
theorem eval4 {P : AV → Mem → Prop} {n : Nat} {kx : KX} {kn : KN} {m : Mem} {fr : Heap} {fv : List AV} {ts : List Nat} {i at' : Nat} {f : BF} {t : Nat} {x xv : AV} (hn : 64 < n) (hfx : fv[i]? = some x) (hx : IsFn x f) (htx : ts[i]? = some t) (ht : Tt t f) (h : Sep m fr)
    (hL : ∀ m', Sep m' fr → Tells (S4_14 (Am.Call T) n kn kx (.list .shared 2 fv) (.list .shared 1 (ts.map vU)) (vI i) xv (vI at') m') P) :
    Tells (S4_15 (Am.Call T) n kn kx (.list .shared 2 fv) (.list .shared 1 (ts.map vU)) (vI i) xv (vI at') m) P := by
  obtain ⟨kf, rfl, hkf⟩ := hx
  have hgt : (ts.map vU)[i]? = some (vU t) := by rw [List.getElem?_map, htx]; rfl
  have htl := ht.lt
  unfold S4_15 G4_15
  refine Tells.loop (fun j vs m => ∃ c : Nat, c + j = 64 ∧ vs = [.list .shared 2 fv, .list .shared 1 (ts.map vU), vI i, xv, vI at', vI c] ∧ Sep m fr) ?_ (i := 64) hn ?_
  · rintro j vs m L2 ⟨c, j1, rfl, h⟩ hL2
    by_cases hc : c < 64
    · have s1 := shr_lt (c := c) htl
      refine .lss ?_
      refine .condT (by first | assumption | omega) ?_
      refine .indexL (j := i) (by rfl) hfx ?_
      refine .loadCA (by rfl) ?_
      refine Tells.call rfl (call21 hc h) ?_
      rintro _ _ ⟨⟨kc, rfl, hkc⟩, h⟩
      skip
      have hcl := chL_len (c := c) (k := 6)
      refine Tells.call rfl (call14 (K := 6) ⟨kf, rfl, hkf⟩ ht.gd ⟨kc, rfl, hkc⟩ (by omega) h) ?_
      rintro _ _ ⟨rfl, h⟩
      rw [chL_row, ← ht.bit c hc]
      have hbb : ¬ ¬ t.testBit c = t.testBit c := fun h => h rfl
      refine .indexL (j := i) (by rfl) hgt ?_
      refine .loadC1 (by rfl) ?_
      refine .shrU (by omega) ?_
      refine .and1U (by omega) ?_
      refine .bitT ?_
      refine .neB ?_
      refine .stay (by first | exact stayK_nil | (repeat first | exact stayK_nil | refine stayK_cons ?_ ?_ | refine stayK_not ?_ | exact stayN_zero | refine stayN_succ (by rfl) (by first | exact Sep.load1 ‹_› (by first | exact .z | exact .s .z | exact .s (.s .z) | exact .s (.s (.s .z)) | exact .s (.s (.s (.s .z))) | exact .s (.s (.s (.s (.s .z)))) | exact .s (.s (.s (.s (.s (.s .z))))) | exact .s (.s (.s (.s (.s (.s (.s .z)))))) | exact .s (.s (.s (.s (.s (.s (.s (.s .z))))))) | exact .s (.s (.s (.s (.s (.s (.s (.s (.s .z)))))))) | exact .s (.s (.s (.s (.s (.s (.s (.s (.s (.s .z))))))))) | exact .s (.s (.s (.s (.s (.s (.s (.s (.s (.s (.s .z)))))))))) | exact .s (.s (.s (.s (.s (.s (.s (.s (.s (.s (.s (.s .z))))))))))) | exact .s (.s (.s (.s (.s (.s (.s (.s (.s (.s (.s (.s (.s .z))))))))))))) (by rfl) | exact Sep.loadA ‹_› (by first | exact .z | exact .s .z | exact .s (.s .z) | exact .s (.s (.s .z)) | exact .s (.s (.s (.s .z))) | exact .s (.s (.s (.s (.s .z)))) | exact .s (.s (.s (.s (.s (.s .z))))) | exact .s (.s (.s (.s (.s (.s (.s .z)))))) | exact .s (.s (.s (.s (.s (.s (.s (.s .z))))))) | exact .s (.s (.s (.s (.s (.s (.s (.s (.s .z)))))))) | exact .s (.s (.s (.s (.s (.s (.s (.s (.s (.s .z))))))))) | exact .s (.s (.s (.s (.s (.s (.s (.s (.s (.s (.s .z)))))))))) | exact .s (.s (.s (.s (.s (.s (.s (.s (.s (.s (.s (.s .z))))))))))) | exact .s (.s (.s (.s (.s (.s (.s (.s (.s (.s (.s (.s (.s .z))))))))))))) (by rfl) | rfl) ?_)) ?_
      refine .condF (by first | assumption | omega) ?_
      refine .add (by rfl) (by omega) ?_
      exact hL2 (j - 1) _ _ (by omega) ⟨c + 1, by omega, rfl, h⟩
    · refine .lss ?_
      refine .condF (by first | assumption | omega) ?_
      refine .blk ?_
      exact hL m h
  · exact ⟨0, by omega, rfl, h⟩

set_option maxHeartbeats 8000000 in
theorem same4 {P : AV → Mem → Prop} {n : Nat} {kx : KX} {kn : KN} {m : Mem} {fr : Heap} {fv : List AV} {ts : List Nat} {fs : List BF} {i at' : Nat} {f : BF} {t : Nat} {x xv : AV} (hn : 64 < n) (hfam : Fam fv ts fs) (hl : fs.length ≤ 20) (hi : i < fs.length) (hfx : fv[i]? = some x) (hx : IsFn x f) (htx : ts[i]? = some t) (ht : Tt t f) (h : Sep m fr)
    (hL : ∀ m', Sep m' fr → Tells (S4_13 (Am.Call T) n kn kx (.list .shared 2 fv) (.list .shared 1 (ts.map vU)) (vI i) xv (vI at') m') P) :
    Tells (S4_14 (Am.Call T) n kn kx (.list .shared 2 fv) (.list .shared 1 (ts.map vU)) (vI i) xv (vI at') m) P := by
  obtain ⟨kf, rfl, hkf⟩ := hx
  have hgt : (ts.map vU)[i]? = some (vU t) := by rw [List.getElem?_map, htx]; rfl
  unfold S4_14 G4_14
  refine Tells.loop (fun j vs m => ∃ k : Nat, k + j = i ∧ vs = [.list .shared 2 fv, .list .shared 1 (ts.map vU), vI i, xv, vI at', vI k] ∧ Sep m fr) ?_ (i := i) (by omega) ?_
  · rintro j vs m L2 ⟨k, j1, rfl, h⟩ hL2
    by_cases hk : k < i
    · obtain ⟨g, hg⟩ : ∃ g, fs[k]? = some g := ⟨_, List.getElem?_eq_getElem (by omega)⟩
      obtain ⟨_, u, hgx, ⟨kg, rfl, hkg⟩, hux, hu⟩ := hfam.ok k g hg
      have hgu : (ts.map vU)[k]? = some (vU u) := by rw [List.getElem?_map, hux]; rfl
      refine .lss ?_
      refine .condT (by first | assumption | omega) ?_
      refine .indexL (j := i) (by rfl) hfx ?_
      refine .loadCA (by rfl) ?_
      refine .indexL (j := k) (by rfl) hgx ?_
      refine .loadCA (by rfl) ?_
      refine Tells.call rfl (call22 ⟨kf, rfl, hkf⟩ ⟨kg, rfl, hkg⟩ ht.gd.len h) ?_
      rintro _ _ ⟨rfl, h⟩
      have e : decide (f = g) = decide ((t : Int) = (u : Int)) := by
        have := ht.same hu
        by_cases e1 : f = g
        · rw [decide_eq_true e1, decide_eq_true (by rw [this.1 e1])]
        · rw [decide_eq_false e1, decide_eq_false (fun e2 => e1 (this.2 (by omega)))]
      rw [e]
      have hbb : ¬ ¬ decide ((t : Int) = (u : Int)) = decide ((t : Int) = (u : Int)) := fun h => h rfl
      refine .indexL (j := i) (by rfl) hgt ?_
      refine .loadC1 (by rfl) ?_
      refine .indexL (j := k) (by rfl) hgu ?_
      refine .loadC1 (by rfl) ?_
      refine .eql ?_
      refine .neB ?_
      refine .stay (by first | exact stayK_nil | (repeat first | exact stayK_nil | refine stayK_cons ?_ ?_ | refine stayK_not ?_ | exact stayN_zero | refine stayN_succ (by rfl) (by first | exact Sep.load1 ‹_› (by first | exact .z | exact .s .z | exact .s (.s .z) | exact .s (.s (.s .z)) | exact .s (.s (.s (.s .z))) | exact .s (.s (.s (.s (.s .z)))) | exact .s (.s (.s (.s (.s (.s .z))))) | exact .s (.s (.s (.s (.s (.s (.s .z)))))) | exact .s (.s (.s (.s (.s (.s (.s (.s .z))))))) | exact .s (.s (.s (.s (.s (.s (.s (.s (.s .z)))))))) | exact .s (.s (.s (.s (.s (.s (.s (.s (.s (.s .z))))))))) | exact .s (.s (.s (.s (.s (.s (.s (.s (.s (.s (.s .z)))))))))) | exact .s (.s (.s (.s (.s (.s (.s (.s (.s (.s (.s (.s .z))))))))))) | exact .s (.s (.s (.s (.s (.s (.s (.s (.s (.s (.s (.s (.s .z))))))))))))) (by rfl) | exact Sep.loadA ‹_› (by first | exact .z | exact .s .z | exact .s (.s .z) | exact .s (.s (.s .z)) | exact .s (.s (.s (.s .z))) | exact .s (.s (.s (.s (.s .z)))) | exact .s (.s (.s (.s (.s (.s .z))))) | exact .s (.s (.s (.s (.s (.s (.s .z)))))) | exact .s (.s (.s (.s (.s (.s (.s (.s .z))))))) | exact .s (.s (.s (.s (.s (.s (.s (.s (.s .z)))))))) | exact .s (.s (.s (.s (.s (.s (.s (.s (.s (.s .z))))))))) | exact .s (.s (.s (.s (.s (.s (.s (.s (.s (.s (.s .z)))))))))) | exact .s (.s (.s (.s (.s (.s (.s (.s (.s (.s (.s (.s .z))))))))))) | exact .s (.s (.s (.s (.s (.s (.s (.s (.s (.s (.s (.s (.s .z))))))))))))) (by rfl) | rfl) ?_)) ?_
      refine .condF (by first | assumption | omega) ?_
      refine .add (by rfl) (by omega) ?_
      exact hL2 (j - 1) _ _ (by omega) ⟨k + 1, by omega, rfl, h⟩
    · refine .lss ?_
      refine .condF (by first | assumption | omega) ?_
      refine .blk ?_
      exact hL m h
  · exact ⟨0, by omega, rfl, h⟩

set_option maxHeartbeats 8000000 in
theorem size4 {P : AV → Mem → Prop} {n : Nat} {kx : KX} {L : List AV → Mem → Rho} {m : Mem} {fr H : Heap} {fv : List AV} {ts : List Nat} {zs : List Int} {i : Nat} {f : BF} {t : Nat} {x xv : AV} (hi : i ≤ 20) (hfx : fv[i]? = some x) (hx : IsFn x f) (ht : Tt t f) (hxv : RowV xv H zs) (hz : VarsOf f zs) (h : Sep m fr)
    (hL : ∀ m', Sep m' fr → Tells (L [.list .shared 2 fv, .list .shared 1 (ts.map vU), vI (i + 1)] m') P) :
    Tells (S4_13 (Am.Call T) n (fun e m' => keepK e [3, 4, 6] fun vs' => L vs' m') kx (.list .shared 2 fv) (.list .shared 1 (ts.map vU)) (vI i) xv (vI zs.length) m) P := by
  obtain ⟨kf, rfl, hkf⟩ := hx
  have hzl := hz.len
  have hcap : f.nodes.length ≤ 63 := Nat.le_trans ht.gd.toCan.cap (by decide)
  unfold S4_13 G4_13
  refine lenV hxv ?_
  refine .neq ?_
  refine .gF (by rfl) (by first | assumption | omega) ?_
  refine .gF (by rfl) (by first | assumption | omega) ?_
  refine .gF (by rfl) (by first | assumption | omega) ?_
  refine .indexL (j := i) (by rfl) hfx ?_
  refine .gF (by rfl) (by first | assumption | omega) ?_
  refine .loadCA (by rfl) ?_
  refine .gF (by rfl) (by first | assumption | omega) ?_
  refine Tells.call rfl (call13 ⟨kf, rfl, hkf⟩ h) ?_
  rintro _ _ ⟨rfl, h⟩
  refine .gF (by rfl) (by first | assumption | omega) ?_
  refine .gF (by rfl) (by first | assumption | omega) ?_
  refine lenV hxv ?_
  refine .gF (by rfl) (by first | assumption | omega) ?_
  refine .lss ?_
  refine .pickF (by first | assumption | omega) ?_
  refine .gF (by rfl) (by first | assumption | omega) ?_
  refine .gF (by rfl) (by first | assumption | omega) ?_
  refine .gF (by rfl) (by first | assumption | omega) ?_
  refine .indexL (j := i) (by rfl) hfx ?_
  refine .gF (by rfl) (by first | assumption | omega) ?_
  refine .loadCA (by rfl) ?_
  refine .gF (by rfl) (by first | assumption | omega) ?_
  refine Tells.call rfl (call13 ⟨kf, rfl, hkf⟩ h) ?_
  rintro _ _ ⟨rfl, h⟩
  refine .gF (by rfl) (by first | assumption | omega) ?_
  refine .gtr ?_
  refine .pickF (by first | assumption | omega) ?_
  refine .gF (by rfl) (by first | assumption | omega) ?_
  refine .gF (by rfl) (by first | assumption | omega) ?_
  refine .gF (by rfl) (by first | assumption | omega) ?_
  refine .indexL (j := i) (by rfl) hfx ?_
  refine .gF (by rfl) (by first | assumption | omega) ?_
  refine .loadCA (by rfl) ?_
  refine .gF (by rfl) (by first | assumption | omega) ?_
  refine Tells.call rfl (call19 (K := 6) (by omega) ⟨kf, rfl, hkf⟩ ht.gd (by omega) h) ?_
  rintro _ _ ⟨⟨q, q1, q2, rfl⟩, h⟩
  rw [show entB f q (-1) = false by simp [entB]]
  unfold S4_16 G4_16
  refine .pickF (by first | assumption | omega) ?_
  refine .condff ?_
  refine .add (by rfl) (by omega) ?_
  exact hL _ h

set_option maxHeartbeats 8000000 in
theorem call4 {m : Mem} {fr : Heap} {v : AV} {as' : List ActR} (hv : IsActs v as') (hl : as'.length < 1152921504606846976) (hs : Sep m fr) (hb : ∀ a ∈ as', a.l.length < 1152921504606846976) :
    Tells (Am.Call T 4 [v] m) fun x _ => x = .bool true := by
  obtain ⟨k, els, rfl, hk, hel, he⟩ := hv
  refine Tells.fn 100 rfl F4_ok rfl ?_
  show Tells (S4 (Am.Call T) _ m (.list .shared k els)) _
  have h : Sep ⟨m.objs, none⟩ fr := hs.objs rfl
  unfold S4 G4
  refine Tells.call rfl (call16 (as' := as') ⟨k, els, rfl, hk, hel, he⟩ hl h hb) ?_
  rintro _ _ (⟨u, w, rfl, h⟩ | ⟨fv, ts, fs, rfl, h, hfam, hlen⟩)
  · refine .extract (by rfl) ?_
    refine .extract (by rfl) ?_
    refine .extract (by rfl) ?_
    refine .not ?_
    refine .condtt ?_
    refine Tells.call rfl (call15 h) ?_
    rintro _ _ ⟨rfl, h⟩
    refine .ret1 (by rfl) ?_
    intro m hobj
    rfl
  · refine .extract (by rfl) ?_
    refine .extract (by rfl) ?_
    refine .extract (by rfl) ?_
    refine .not ?_
    refine .condff ?_
    have h1 := hfam.l1
    refine Tells.loop (fun j vs m => ∃ (i : Nat) (R : Heap), i + j = fs.length ∧ vs = [.list .shared 2 fv, .list .shared 1 (ts.map vU), vI i] ∧ Sep m R) ?_ (i := fs.length) (by omega) ?_
    · rintro j vs m L ⟨i, R, j1, rfl, h⟩ hL
      by_cases hi : i < fs.length
      · obtain ⟨f, hf⟩ : ∃ f, fs[i]? = some f := ⟨_, List.getElem?_eq_getElem hi⟩
        obtain ⟨x, t, hfx, hx, htx, ht⟩ := hfam.ok i f hf
        refine .lenL ?_
        refine .lss ?_
        refine .condT (by first | assumption | omega) ?_
        refine vars4 (by omega) hfam hfx hx htx ht h ?_
        intro H zs xv m' hxv hz h
        refine eval4 (by omega) hfx hx htx ht h ?_
        intro m' h
        refine same4 (by omega) hfam hlen hi hfx hx htx ht h ?_
        intro m' h
        refine size4 (by omega) hfx hx ht hxv hz h ?_
        intro m' h
        exact hL (j - 1) _ _ (by omega) ⟨i + 1, _, by omega, rfl, h⟩
      · refine .lenL ?_
        refine .lss ?_
        refine .condF (by first | assumption | omega) ?_
        refine .blk ?_
        refine Tells.call rfl (call15 h) ?_
        rintro _ _ ⟨rfl, h⟩
        refine .ret1 (by rfl) ?_
        intro m hobj
        rfl
    · exact ⟨0, _, by omega, rfl, h⟩
end Go.Proofs.P16
