/- The walk through PosTells. -/
import Derived.Test.YtdddcofggemnkaaP16W17
namespace Go.Proofs.P16
set_option linter.unusedSimpArgs false
set_option linter.unusedVariables false
set_option linter.unusedSectionVars false
set_option linter.unnecessarySimpa false
open Go Go.Am Go.Bdd
attribute [local irreducible] loadK storeK newK boxK tipK makeMapK buildTK buildK buildSliceK nilK binK unK condK convK eqvK pickK gK gDK vK extractK fieldK lookupK mapUpdateK appendK min2K max2K retK makeSliceK freezeK bytesK loopV blkK stayK sameK rangeK callK aFieldAddr aIndexAddr aIndexAddrA aLen aIndex aSlice

theorem ent_eq {t : Nat} {f q : BF} {z : Int} (hf : Tt t f) (hq : Gd 6 q) (ht : Tkn 6 q (fun ρ => f.sem ρ && semZ z ρ)) (h0 : 0 ≤ z) (h6 : z < 6) {b : Bool} (hb : b = true ↔ ∀ c, c < 64 → t.testBit c = true → bitN c z = true) : entB f q z = b := by
  rw [Bool.eq_iff_iff, ent_iff (by omega) hf.gd hq ht, hb, ← hf.entails h0 h6]
  exact ⟨fun h => h.2, fun h => ⟨h0, h⟩⟩

/-- How far one is in the variables. -/
structure UpTo (zs : List Int) (v at' : Nat) : Prop where
  lo : ∀ (i : Nat) (z : Int), i < at' → zs[i]? = some z → z < v
  hi : ∀ (i : Nat) (z : Int), at' ≤ i → zs[i]? = some z → (v : Int) ≤ z
  le : at' ≤ zs.length

theorem UpTo.own {f : BF} {zs : List Int} (hz : VarsOf f zs) {v at' : Nat} (h : UpTo zs v at') (hg : Hg f v) : zs[at']? = some (v : Int) := by
  obtain ⟨i, hi⟩ := List.getElem?_of_mem ((hz.mem (v : Int)).2 ⟨by omega, by simpa using hg⟩)
  by_cases h1 : i < at'
  · have := h.lo i _ h1 hi; omega
  · by_cases h2 : i = at'
    · rw [← h2]; exact hi
    · obtain ⟨z, hza⟩ : ∃ z, zs[at']? = some z := ⟨_, List.getElem?_eq_getElem (by have := (List.getElem?_eq_some_iff.1 hi).1; omega)⟩
      have := hz.ne hza hi (by omega)
      have := h.hi at' z (Nat.le_refl _) hza
      omega
theorem UpTo.not {f : BF} {zs : List Int} (hz : VarsOf f zs) {v at' : Nat} (hg : ¬ Hg f v) : zs[at']? ≠ some (v : Int) := fun e => hg (by simpa using (hz.at e).2)
theorem UpTo.next {f : BF} {zs : List Int} (hz : VarsOf f zs) {v at' : Nat} (h : UpTo zs v at') (hg : Hg f v) : UpTo zs (v + 1) (at' + 1) := by
  have ho := h.own hz hg
  refine ⟨fun i z hi hzi => ?_, fun i z hi hzi => ?_, by have := (List.getElem?_eq_some_iff.1 ho).1; omega⟩
  · by_cases e : i = at'
    · subst e; rw [ho] at hzi; cases hzi; omega
    · have := h.lo i z (by omega) hzi; omega
  · have := hz.ne ho hzi (by omega); omega
theorem UpTo.skip {f : BF} {zs : List Int} (hz : VarsOf f zs) {v at' : Nat} (h : UpTo zs v at') (hg : ¬ Hg f v) : UpTo zs (v + 1) at' := by
  refine ⟨fun i z hi hzi => by have := h.lo i z hi hzi; omega, fun i z hi hzi => ?_, h.le⟩
  have h1 := h.hi i z hi hzi
  have h2 : z ≠ (v : Int) := fun e => hg (by subst e; simpa using (hz.at hzi).2)
  omega
theorem UpTo.done {f : BF} (hf : Gd 6 f) {zs : List Int} (hz : VarsOf f zs) {at' : Nat} (h : UpTo zs 6 at') : at' = zs.length := by
  refine Nat.le_antisymm h.le (Nat.le_of_not_lt fun hlt => ?_)
  obtain ⟨z, hza⟩ : ∃ z, zs[at']? = some z := ⟨_, List.getElem?_eq_getElem hlt⟩
  have h1 := h.hi at' z (Nat.le_refl _) hza
  obtain ⟨h2, h3⟩ := hz.at hza
  have := h3.lt hf
  omega

attribute [local irreducible] S4_15 S4_14 S4_13 S4_16

set_option maxHeartbeats 8000000 in
theorem ent4 {P : AV → Mem → Prop} {n : Nat} {kx : KX} {L2 : List AV → Mem → Rho} {m : Mem} {fr : Heap} {fv : List AV} {ts : List Nat} {i v at' : Nat} {f : BF} {t : Nat} {x xv : AV} (hfx : fv[i]? = some x) (hx : IsFn x f) (htx : ts[i]? = some t) (ht : Tt t f) (hv : v < 6)
    (h : Sep m fr)
    (hL : ∀ m', Sep m' fr → Tells (L2 [.list .shared 2 fv, .list .shared 1 (ts.map vU), vI i, xv, vI at', vI (v + 1)] m') P) :
    Tells (S4_1 (Am.Call T) n (fun e m' => keepK e [3, 4, 6, 7, 8, 9] fun vs' => L2 vs' m') kx (.list .shared 2 fv) (.list .shared 1 (ts.map vU)) (vI i) xv (vI at') (vI v) (.bool (decide (Hg f v))) m) P := by
  obtain ⟨kf, rfl, hkf⟩ := hx
  have hgt : (ts.map vU)[i]? = some (vU t) := by rw [List.getElem?_map, htx]; rfl
  unfold S4_1 G4_1
  refine .indexL (j := i) (by rfl) hgt ?_
  refine .loadC1 (by rfl) ?_
  refine Tells.call rfl (call18 ht hv h) ?_
  rintro _ _ ⟨rfl, h⟩
  have hnn : ¬ ¬ decide (Hg f v) = decide (Hg f v) := fun h => h rfl
  refine .neB ?_
  rw [decide_eq_false hnn]
  refine .gDff ?_
  refine .gDff ?_
  refine .gDff ?_
  refine .indexL (j := i) (by rfl) hfx ?_
  refine .gDff ?_
  refine .loadCA (by rfl) ?_
  refine .gDff ?_
  refine .gDff ?_
  refine Tells.call rfl (call19 (K := 6) (by omega) ⟨kf, rfl, hkf⟩ ht.gd (by omega) h) ?_
  rintro _ _ ⟨⟨q, q1, q2, rfl⟩, h⟩
  refine .gDff ?_
  refine .gDff ?_
  refine .gDff ?_
  refine .indexL (j := i) (by rfl) hgt ?_
  refine .gDff ?_
  refine .loadC1 (by rfl) ?_
  refine .gDff ?_
  refine .gDff ?_
  refine Tells.call rfl (call20 ht.lt h) ?_
  rintro _ _ ⟨⟨b, rfl, hb⟩, h⟩
  rw [ent_eq ht q1 q2 (by omega) (by omega) hb]
  have hbb : ¬ ¬ b = b := fun h => h rfl
  refine .gDff ?_
  refine .neB ?_
  refine .pickff ?_
  refine .stay (by first | exact stayK_nil | (repeat first | exact stayK_nil | refine stayK_cons ?_ ?_ | refine stayK_not ?_ | exact stayN_zero | refine stayN_succ (by rfl) (by first | exact Sep.load1 ‹_› (by first | exact .z | exact .s .z | exact .s (.s .z) | exact .s (.s (.s .z)) | exact .s (.s (.s (.s .z))) | exact .s (.s (.s (.s (.s .z)))) | exact .s (.s (.s (.s (.s (.s .z))))) | exact .s (.s (.s (.s (.s (.s (.s .z)))))) | exact .s (.s (.s (.s (.s (.s (.s (.s .z))))))) | exact .s (.s (.s (.s (.s (.s (.s (.s (.s .z)))))))) | exact .s (.s (.s (.s (.s (.s (.s (.s (.s (.s .z))))))))) | exact .s (.s (.s (.s (.s (.s (.s (.s (.s (.s (.s .z)))))))))) | exact .s (.s (.s (.s (.s (.s (.s (.s (.s (.s (.s (.s .z))))))))))) | exact .s (.s (.s (.s (.s (.s (.s (.s (.s (.s (.s (.s (.s .z))))))))))))) (by rfl) | exact Sep.loadA ‹_› (by first | exact .z | exact .s .z | exact .s (.s .z) | exact .s (.s (.s .z)) | exact .s (.s (.s (.s .z))) | exact .s (.s (.s (.s (.s .z)))) | exact .s (.s (.s (.s (.s (.s .z))))) | exact .s (.s (.s (.s (.s (.s (.s .z)))))) | exact .s (.s (.s (.s (.s (.s (.s (.s .z))))))) | exact .s (.s (.s (.s (.s (.s (.s (.s (.s .z)))))))) | exact .s (.s (.s (.s (.s (.s (.s (.s (.s (.s .z))))))))) | exact .s (.s (.s (.s (.s (.s (.s (.s (.s (.s (.s .z)))))))))) | exact .s (.s (.s (.s (.s (.s (.s (.s (.s (.s (.s (.s .z))))))))))) | exact .s (.s (.s (.s (.s (.s (.s (.s (.s (.s (.s (.s (.s .z))))))))))))) (by rfl) | rfl) ?_)) ?_
  refine .condF (by first | assumption | omega) ?_
  refine .add (by rfl) (by omega) ?_
  exact hL _ h

attribute [local irreducible] S4_1

set_option maxHeartbeats 8000000 in
theorem vars4 {P : AV → Mem → Prop} {n : Nat} {kx : KX} {L : List AV → Mem → Rho} {m : Mem} {fr : Heap} {fv : List AV} {ts : List Nat} {fs : List BF} {i : Nat} {f : BF} {t : Nat} {x : AV} (hn : 64 < n) (hfam : Fam fv ts fs) (hfx : fv[i]? = some x) (hx : IsFn x f) (htx : ts[i]? = some t) (ht : Tt t f)
    (h : Sep m fr)
    (hL : ∀ H zs xv m', RowV xv H zs → VarsOf f zs → Sep m' (H ++ fr) → Tells (S4_15 (Am.Call T) n (fun e m' => keepK e [3, 4, 6] fun vs' => L vs' m') kx (.list .shared 2 fv) (.list .shared 1 (ts.map vU)) (vI i) xv (vI zs.length) m') P) :
    Tells (S4_17 (Am.Call T) n (fun e m' => keepK e [3, 4, 6] fun vs' => L vs' m') kx (.list .shared 2 fv) (.list .shared 1 (ts.map vU)) (vI i) m) P := by
  obtain ⟨kf, rfl, hkf⟩ := hx
  have hgt : (ts.map vU)[i]? = some (vU t) := by rw [List.getElem?_map, htx]; rfl
  have h1 := hfam.l1
  have h2 := hfam.l2
  unfold S4_17 G4_17
  refine .indexL (j := i) (by rfl) hfx ?_
  refine .loadCA (by rfl) ?_
  refine Tells.call rfl (call17 ⟨kf, rfl, hkf⟩ ht.gd.len h) ?_
  rintro xv m1 ⟨H, zs, hxv, hz, h⟩
  have hzl := hz.len
  have hfl := ht.gd.len
  refine Tells.loop (fun j vs m => ∃ v at' : Nat, v + j = 6 ∧ UpTo zs v at' ∧ vs = [.list .shared 2 fv, .list .shared 1 (ts.map vU), vI i, xv, vI at', vI v] ∧ Sep m (H ++ fr)) ?_ (i := 6) (by omega) ?_
  · rintro j vs m L2 ⟨v, at', j1, j2, rfl, h⟩ hL2
    have hle := j2.le
    by_cases hv : v < 6
    · by_cases hg : Hg f v
      · have ho := j2.own hz hg
        have hlt : at' < zs.length := (List.getElem?_eq_some_iff.1 ho).1
        refine .lss ?_
        refine .condT (by first | assumption | omega) ?_
        refine lenV hxv ?_
        refine .lss ?_
        refine .gT (by rfl) (by first | assumption | omega) ?_
        refine .gT (by rfl) (by first | assumption | omega) ?_
        refine .gT (by rfl) (by first | assumption | omega) ?_
        refine idxV hxv ho ?_; intro id ver hld
        refine .gT (by rfl) (by first | assumption | omega) ?_
        refine hld _ _ h _ _ ?_
        refine .gT (by rfl) (by first | assumption | omega) ?_
        refine .gT (by rfl) (by first | assumption | omega) ?_
        refine .eql ?_
        refine .pickT (by first | assumption | omega) ?_
        refine .condT (by first | assumption | omega) ?_
        refine .add (by rfl) (by omega) ?_
        have hent := ent4 (n := n) (kx := blkK 2 (fun e m => keepK e [3, 4, 6, 7, 8] fun vs => unc vs fun x0 vs => unc vs fun x1 vs => unc vs fun x2 vs => unc vs fun x3 vs => unc vs fun x4 vs => unz vs (S4_15 (Am.Call T) n (fun e m' => keepK e [3, 4, 6] fun vs' => L vs' m') kx x0 x1 x2 x3 x4 m)) (blkK 1 (fun e m => keepK e [3, 4, 6] fun vs => unc vs fun x0 vs => unc vs fun x1 vs => unc vs fun x2 vs => unz vs (S4_16 (Am.Call T) n (fun e m' => keepK e [3, 4, 6] fun vs' => L vs' m') kx x0 x1 x2 m)) kx)) (at' := at' + 1) (xv := xv) hfx ⟨kf, rfl, hkf⟩ htx ht hv h (fun m' h => hL2 (j - 1) _ _ (by omega) ⟨v + 1, at' + 1, by omega, j2.next hz hg, rfl, h⟩)
        rw [decide_eq_true hg] at hent
        rw [show decide ((v : Int) = (v : Int)) = true by simp]
        skip
        exact hent
      · by_cases hlt : at' < zs.length
        · obtain ⟨z, hza⟩ : ∃ z, zs[at']? = some z := ⟨_, List.getElem?_eq_getElem hlt⟩
          have hne : ¬ z = (v : Int) := fun e => UpTo.not hz hg (by rw [hza, e])
          refine .lss ?_
          refine .condT (by first | assumption | omega) ?_
          refine lenV hxv ?_
          refine .lss ?_
          refine .gT (by rfl) (by first | assumption | omega) ?_
          refine .gT (by rfl) (by first | assumption | omega) ?_
          refine .gT (by rfl) (by first | assumption | omega) ?_
          refine idxV hxv hza ?_; intro id ver hld
          refine .gT (by rfl) (by first | assumption | omega) ?_
          refine hld _ _ h _ _ ?_
          refine .gT (by rfl) (by first | assumption | omega) ?_
          refine .gT (by rfl) (by first | assumption | omega) ?_
          refine .eql ?_
          refine .pickT (by first | assumption | omega) ?_
          refine .condF (by first | assumption | omega) ?_
          rw [decide_eq_false hne]
          have hent := ent4 (n := n) (kx := blkK 2 (fun e m => keepK e [3, 4, 6, 7, 8] fun vs => unc vs fun x0 vs => unc vs fun x1 vs => unc vs fun x2 vs => unc vs fun x3 vs => unc vs fun x4 vs => unz vs (S4_15 (Am.Call T) n (fun e m' => keepK e [3, 4, 6] fun vs' => L vs' m') kx x0 x1 x2 x3 x4 m)) (blkK 1 (fun e m => keepK e [3, 4, 6] fun vs => unc vs fun x0 vs => unc vs fun x1 vs => unc vs fun x2 vs => unz vs (S4_16 (Am.Call T) n (fun e m' => keepK e [3, 4, 6] fun vs' => L vs' m') kx x0 x1 x2 m)) kx)) (at' := at') (xv := xv) hfx ⟨kf, rfl, hkf⟩ htx ht hv h (fun m' h => hL2 (j - 1) _ _ (by omega) ⟨v + 1, at', by omega, j2.skip hz hg, rfl, h⟩)
          rw [decide_eq_false hg] at hent
          exact hent
        · refine .lss ?_
          refine .condT (by first | assumption | omega) ?_
          refine lenV hxv ?_
          refine .lss ?_
          refine .gFT (by rfl) (by first | assumption | omega) ?_
          refine .gFT (by rfl) (by first | assumption | omega) ?_
          refine .gFT (by rfl) (by first | assumption | omega) ?_
          refine .gFT (by rfl) (by first | assumption | omega) ?_
          refine .gFT (by rfl) (by first | assumption | omega) ?_
          refine .gFT (by rfl) (by first | assumption | omega) ?_
          refine .pickF (by first | assumption | omega) ?_
          refine .condff ?_
          have hent := ent4 (n := n) (kx := blkK 2 (fun e m => keepK e [3, 4, 6, 7, 8] fun vs => unc vs fun x0 vs => unc vs fun x1 vs => unc vs fun x2 vs => unc vs fun x3 vs => unc vs fun x4 vs => unz vs (S4_15 (Am.Call T) n (fun e m' => keepK e [3, 4, 6] fun vs' => L vs' m') kx x0 x1 x2 x3 x4 m)) (blkK 1 (fun e m => keepK e [3, 4, 6] fun vs => unc vs fun x0 vs => unc vs fun x1 vs => unc vs fun x2 vs => unz vs (S4_16 (Am.Call T) n (fun e m' => keepK e [3, 4, 6] fun vs' => L vs' m') kx x0 x1 x2 m)) kx)) (at' := at') (xv := xv) hfx ⟨kf, rfl, hkf⟩ htx ht hv h (fun m' h => hL2 (j - 1) _ _ (by omega) ⟨v + 1, at', by omega, j2.skip hz hg, rfl, h⟩)
          rw [decide_eq_false hg] at hent
          exact hent
    · have : v = 6 := by omega
      subst this
      have hd := j2.done ht.gd hz
      subst hd
      refine .lss ?_
      refine .condff ?_
      refine .blk ?_
      exact hL H zs xv m hxv hz h
  · exact ⟨0, 0, by omega, ⟨fun i z h => by omega, fun i z _ hz' => (hz.at hz').1, by omega⟩, rfl, h⟩
end Go.Proofs.P16
