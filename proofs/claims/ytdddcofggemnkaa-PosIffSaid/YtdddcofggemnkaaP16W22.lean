/- The walk through PosIff: behind its open region. -/
import Derived.Test.YtdddcofggemnkaaP16W21
namespace Go.Proofs.P16
set_option linter.all false
open Go Go.Am Go.Bdd
attribute [local irreducible] loadK storeK newK boxK tipK makeMapK buildTK buildK buildSliceK nilK binK unK condK convK eqvK pickK gK gDK vK extractK fieldK lookupK mapUpdateK appendK min2K max2K retK makeSliceK freezeK bytesK loopV blkK stayK sameK rangeK callK aFieldAddr aIndexAddr aIndexAddrA aLen aIndex aSlice
attribute [local irreducible] S6_13 S6_14 S6_15

def toL (t n : Nat) : List Int := (List.range n).map fun i => (((i + t) % 6 : Nat) : Int)
def bkL (t n : Nat) : List Int := (List.range n).map fun (i : Nat) => (((i : Int) - t) % 6)
theorem toL_succ {t n : Nat} : (toL t (n + 1)).map vZ = (toL t n).map vZ ++ [vI ((n + t) % 6)] := by
  simp only [toL, List.range_succ, List.map_append, List.map_cons, List.map_nil]
theorem bkL_succ {t n : Nat} : (bkL t (n + 1)).map vZ = (bkL t n).map vZ ++ [.int .i64 (((n : Int) - t) % 6)] := by
  simp only [bkL, List.range_succ, List.map_append, List.map_cons, List.map_nil]
theorem toL_len {t n : Nat} : (toL t n).length = n := by simp [toL]
theorem bkL_len {t n : Nat} : (bkL t n).length = n := by simp [bkL]
theorem bk_val {a : Int} : (a.tmod 6 + 6).tmod 6 = a % 6 := by
  rcases Int.le_total 0 a with h | h
  · rw [Int.tmod_eq_emod_of_nonneg h, Int.tmod_eq_emod_of_nonneg (by omega)]; omega
  · have e : a.tmod 6 = -((-a) % 6) := by
      rw [← Int.tmod_eq_emod_of_nonneg (by omega : 0 ≤ -a), Int.neg_tmod]; omega
    rw [e, Int.tmod_eq_emod_of_nonneg (by omega)]; omega
theorem tm_bd {a : Int} : -6 < a.tmod 6 ∧ a.tmod 6 < 6 := by
  rcases Int.le_total 0 a with h | h
  · rw [Int.tmod_eq_emod_of_nonneg h]; omega
  · have e : a.tmod 6 = -((-a) % 6) := by
      rw [← Int.tmod_eq_emod_of_nonneg (by omega : 0 ≤ -a), Int.neg_tmod]; omega
    omega
theorem toL_get {t v : Nat} (hv : v < 6) : (toL t 6)[v]? = some (((v + t) % 6 : Nat) : Int) := by
  simp [toL, List.getElem?_map, List.getElem?_range hv]
theorem bkL_get {t v : Nat} (hv : v < 6) : (bkL t 6)[v]? = some (((v : Int) - t) % 6) := by
  simp [bkL, List.getElem?_map, List.getElem?_range hv]

/-- Renamed there and back. -/
theorem ren_back {t : Nat} {f g r : BF} (hf : Gd 6 f) (hg : Gd 6 g) (hr : Gd 6 r) (h1 : ∀ ρ, g.sem ρ = renS (toL t 6) f ρ) (h2 : ∀ ρ, r.sem ρ = renS (bkL t 6) g ρ) : r = f := by
  have k1 : RenOk (toL t 6) f := by
    refine ⟨fun v hv => ⟨_, toL_get (hv.lt hf), by omega⟩, fun v w hv hw hne => ?_⟩
    have a := hv.lt hf
    have b := hw.lt hf
    rw [toL_get a, toL_get b]
    intro e
    have := Option.some.inj e
    omega
  have k2 : RenOk (bkL t 6) g := by
    refine ⟨fun v hv => ⟨_, bkL_get (hv.lt hg), by omega⟩, fun v w hv hw hne => ?_⟩
    have a := hv.lt hg
    have b := hw.lt hg
    rw [bkL_get a, bkL_get b]
    intro e
    have := Option.some.inj e
    omega
  refine (same_iff hr.toCan hf.toCan).2 fun ρ => ?_
  rw [h2, renS, if_pos k2, h1, renS, if_pos k1]
  refine sem_six hf fun v hv => ?_
  rw [toL_get hv]
  have e : ((v + t) % 6 : Nat) < 6 := Nat.mod_lt _ (by decide)
  simp only [Option.getD_some, Int.toNat_natCast]
  rw [bkL_get e]
  simp only [Option.getD_some]
  congr 1
  omega

theorem tail13 {n : Nat} {m : Mem} {fr : Heap} {t pf kf : Nat} {f : BF} {g1 g2 : Tag} (hf : Gd 6 f) (hk : kf = 3 ∨ f.nodes = []) (h : Sep m ((pf, fnO kf f) :: fr)) :
    Tells (S6_13 (Am.Call T) n (asN (Yes f6 .nrm)) (asX (Yes f6)) (.ptr pf 0 0) (.list g1 1 ((toL t 6).map vZ)) (.list g2 1 ((bkL t 6).map vZ)) m) fun _ _ => True := by
  unfold S6_13 G6_13
  refine .loadA ‹_› .z (by rfl) ?_
  refine Tells.call rfl (call26 (L := toL t 6) ⟨_, rfl, hk⟩ hf ⟨1, rfl, .inl rfl⟩ (by simp [toL]; omega) (by simp [toL_len]) h) ?_
  rintro _ _ ⟨q, ⟨k1, rfl, hk1⟩, h, q1, q2⟩
  have q3 := tk (by omega) q2
  refine Tells.call rfl (call26 (L := bkL t 6) ⟨_, rfl, hk1⟩ q1 ⟨1, rfl, .inl rfl⟩ (by simp [bkL]; omega) (by simp [bkL_len]) h) ?_
  rintro _ _ ⟨r, ⟨k2, rfl, hk2⟩, h, r1, r2⟩
  have r3 := tk (by omega) r2
  refine .loadA ‹_› .z (by rfl) ?_
  refine Tells.call rfl (call22 ⟨_, rfl, hk2⟩ ⟨_, rfl, hk⟩ r1.len h) ?_
  rintro _ _ ⟨rfl, h⟩
  rw [decide_eq_true (ren_back hf q1 r1 q3 r3)]
  refine .gDtt ?_
  refine Tells.call rfl (call15 h) ?_
  rintro _ _ ⟨rfl, h⟩
  refine .picktt ?_
  refine .stay (by first | exact stayK_nil | (repeat first | exact stayK_nil | refine stayK_cons ?_ ?_ | refine stayK_not ?_ | exact stayN_zero | refine stayN_succ (by rfl) (by first | exact Sep.load1 ‹_› (by first | exact .z | exact .s .z | exact .s (.s .z) | exact .s (.s (.s .z)) | exact .s (.s (.s (.s .z))) | exact .s (.s (.s (.s (.s .z)))) | exact .s (.s (.s (.s (.s (.s .z))))) | exact .s (.s (.s (.s (.s (.s (.s .z)))))) | exact .s (.s (.s (.s (.s (.s (.s (.s .z))))))) | exact .s (.s (.s (.s (.s (.s (.s (.s (.s .z)))))))) | exact .s (.s (.s (.s (.s (.s (.s (.s (.s (.s .z))))))))) | exact .s (.s (.s (.s (.s (.s (.s (.s (.s (.s (.s .z)))))))))) | exact .s (.s (.s (.s (.s (.s (.s (.s (.s (.s (.s (.s .z))))))))))) | exact .s (.s (.s (.s (.s (.s (.s (.s (.s (.s (.s (.s (.s .z))))))))))))) (by rfl) | exact Sep.loadA ‹_› (by first | exact .z | exact .s .z | exact .s (.s .z) | exact .s (.s (.s .z)) | exact .s (.s (.s (.s .z))) | exact .s (.s (.s (.s (.s .z)))) | exact .s (.s (.s (.s (.s (.s .z))))) | exact .s (.s (.s (.s (.s (.s (.s .z)))))) | exact .s (.s (.s (.s (.s (.s (.s (.s .z))))))) | exact .s (.s (.s (.s (.s (.s (.s (.s (.s .z)))))))) | exact .s (.s (.s (.s (.s (.s (.s (.s (.s (.s .z))))))))) | exact .s (.s (.s (.s (.s (.s (.s (.s (.s (.s (.s .z)))))))))) | exact .s (.s (.s (.s (.s (.s (.s (.s (.s (.s (.s (.s .z))))))))))) | exact .s (.s (.s (.s (.s (.s (.s (.s (.s (.s (.s (.s (.s .z))))))))))))) (by rfl) | rfl) ?_)) ?_
  exact tells_asX ⟨_, rfl, rfl⟩

theorem tail14 {n : Nat} {m : Mem} {fr : Heap} {t pf kf : Nat} {f : BF} (hn : 6 < n) (ht : t < 256) (hf : Gd 6 f) (hk : kf = 3 ∨ f.nodes = []) (h : Sep m ((pf, fnO kf f) :: fr)) :
    Tells (S6_14 (Am.Call T) n (asN (Yes f6 .nrm)) (asX (Yes f6)) (.int .u8 t) (.ptr pf 0 0) m) fun _ _ => True := by
  unfold S6_14 G6_14
  refine .tip ‹_› ?_
  intro nw m h
  refine .tip ‹_› ?_
  intro nw m h
  rename_i p1 _ _
  refine Tells.loop (fun j vs m => ∃ i : Nat, i + j = 6 ∧ vs = [.int .u8 t, .ptr pf 0 0, .list (.own p1) 1 ((toL t i).map vZ), .list (.own nw) 1 ((bkL t i).map vZ), vI i] ∧ Sep m ((nw, .tip i) :: (p1, .tip i) :: (pf, fnO kf f) :: fr)) ?_ (i := 6) hn ?_
  · rintro j vs m L2 ⟨i, j1, rfl, h⟩ hL
    by_cases hi : i < 6
    · unfold S6_11 G6_11
      refine .lss ?_
      refine .condT (by first | assumption | omega) ?_
      unfold S6_10 G6_10
      have e1 : ((i : Int) + (t : Int)).tmod 6 = (((i + t) % 6 : Nat) : Int) := by rw [Int.tmod_eq_emod_of_nonneg (by omega)]; omega
      refine Tells.conv64 (by omega) ?_
      refine Tells.add (c := (i : Int) + t) rfl (by omega) ?_
      refine Tells.rem (by omega) e1 ?_
      refine Tells.bs1 ?_
      refine Tells.append1 (n := 1) (bytes := 8) (xs := (toL t i).map vZ) (j := i) h (.s .z) (by rw [List.length_map, toL_len]) (by unfold room; omega) (by omega) rfl rfl ?_
      intro m h
      refine Tells.conv64 (by omega) ?_
      refine Tells.sub (c := (i : Int) - t) rfl (by omega) ?_
      refine Tells.rem (by omega) rfl ?_
      refine Tells.add (c := ((i : Int) - t).tmod 6 + 6) rfl ?_ ?_
      · have := tm_bd (a := (i : Int) - t); omega
      refine Tells.rem (by omega) bk_val ?_
      refine Tells.bs1 ?_
      refine Tells.append1 (n := 1) (bytes := 8) (xs := (bkL t i).map vZ) (j := i) h .z (by rw [List.length_map, bkL_len]) (by unfold room; omega) (by omega) rfl rfl ?_
      intro m h
      refine .add (by rfl) (by omega) ?_
      refine hL (j - 1) _ _ (by omega) ⟨i + 1, by omega, ?_, h⟩
      rw [toL_succ, bkL_succ]
      rfl
    · have hi : i = 6 := by omega
      subst hi
      unfold S6_11 G6_11
      refine .lss ?_
      refine .condff ?_
      refine .blk ?_
      exact tail13 hf hk h.tail.tail
  · exact ⟨0, by omega, rfl, h⟩

theorem tail15 {n : Nat} {m : Mem} {fr : Heap} {z : Int} {k t pa pf ka kf : Nat} {L : List Int} {fa f : BF} (hn : 6 < n) (ht : t < 256) (hkL : k = 1 ∨ L = []) (hz : 0 ≤ z) (hz5 : z ≤ 5) (hfa : Gd 6 fa) (hka : ka = 3 ∨ fa.nodes = []) (ha : ∀ ρ, fa.sem ρ = L.all fun x => semZ x ρ) (hf : Gd 6 f) (hk : kf = 3 ∨ f.nodes = []) (hs : ∀ ρ, f.sem ρ = iffS z L ρ)
    (h : Sep m ((pf, fnO kf f) :: (pa, fnO ka fa) :: fr)) :
    Tells (S6_15 (Am.Call T) n (asN (Yes f6 .nrm)) (asX (Yes f6)) (.int .i64 z) (.list .shared k (L.map vZ)) (.int .u8 t) (.ptr pa 0 0) (.ptr pf 0 0) m) fun _ _ => True := by
  have hlenL : (L.map vZ).length = L.length := List.length_map _
  have hzn : decide (z < 0) = false := decide_eq_false (by omega)
  unfold S6_15 G6_15
  refine .loadA ‹_› .z (by rfl) ?_
  refine .loadA ‹_› (.s .z) (by rfl) ?_
  refine Tells.call rfl (call11 (K := 6) (by omega) ⟨_, rfl, hk⟩ ⟨_, rfl, hka⟩ hf hfa h) ?_
  rintro _ _ ⟨q, ⟨k1, rfl, hk1⟩, h, q1, q2⟩
  have q3 := tk (by omega) q2
  refine Tells.call rfl (call19 (K := 6) (by omega) ⟨_, rfl, hk1⟩ q1 (by omega) h) ?_
  rintro _ _ ⟨⟨e, e1, e2, rfl⟩, h⟩
  rw [(ent_iff (by omega) q1 e1 e2).2 ⟨hz, fun ρ hρ => by
    rw [q3, hs, ha, iffS, hzn, Bool.and_eq_true] at hρ
    obtain ⟨r1, r2⟩ := hρ
    rw [r2] at r1
    simpa using r1⟩]
  by_cases h0 : L.length = 0
  · have hL : L = [] := List.eq_nil_of_length_eq_zero h0
    subst hL
    refine .not ?_
    refine .gff ?_
    refine .gff ?_
    refine .lenL ?_
    refine .gff ?_
    refine .eql ?_
    refine .gff ?_
    refine .gtt ?_
    refine .loadA ‹_› .z (by rfl) ?_
    refine .gtt ?_
    refine .gtt ?_
    refine Tells.call rfl (call19 (K := 6) (by omega) ⟨_, rfl, hk⟩ hf (by omega) h) ?_
    rintro _ _ ⟨⟨e', e1', e2', rfl⟩, h⟩
    rw [(ent_iff (by omega) hf e1' e2').2 ⟨hz, fun ρ hρ => by
      rw [hs, iffS, hzn] at hρ
      simpa using hρ⟩]
    refine .gtt ?_
    refine .not ?_
    refine .gff ?_
    refine .picktt ?_
    refine .pickff ?_
    refine .condff ?_
    exact tail14 hn ht hf hk h
  · refine .not ?_
    refine .gff ?_
    refine .gff ?_
    refine .lenL ?_
    refine .gff ?_
    refine .eql ?_
    refine .gff ?_
    refine .gFT (by rfl) (by first | assumption | omega) ?_
    refine .gFT (by rfl) (by first | assumption | omega) ?_
    refine .gFT (by rfl) (by first | assumption | omega) ?_
    refine .gFT (by rfl) (by first | assumption | omega) ?_
    refine .gff ?_
    refine .pickF (by first | assumption | omega) ?_
    refine .pickff ?_
    refine .condff ?_
    exact tail14 hn ht hf hk h

theorem tail_iff {m : Mem} {fr : Heap} {z : Int} {k t pa pf p ka kf kg : Nat} {L : List Int} {fa f g : BF} (ht : t < 256) (hkL : k = 1 ∨ L = []) (hz : 0 ≤ z) (hz5 : z ≤ 5) (hL6 : L.length ≤ 6) (hb : ∀ x ∈ L, 0 ≤ x ∧ x ≤ 5) (hfa : Gd 6 fa) (hka : ka = 3 ∨ fa.nodes = []) (ha : ∀ ρ, fa.sem ρ = L.all fun x => semZ x ρ) (hf : Gd 6 f) (hk : kf = 3 ∨ f.nodes = []) (hs : ∀ ρ, f.sem ρ = iffS z L ρ)
    (hg : Gd 6 g) (hkg : kg = 3 ∨ g.nodes = []) (hgs : ∀ ρ, g.sem ρ = (f.sem ρ && semZ z ρ)) (h : Sep m ((p, fnO kg g) :: (pf, fnO kf f) :: (pa, fnO ka fa) :: fr)) :
    WPc (Am.Call T) b6_16 [(0, .int .i64 z), (1, .list .shared k (L.map vZ)), (2, .int .u8 t), (7, .ptr pa 0 0), (10, .ptr pf 0 0), (11, .ptr p 0 0)] m (Yes f6 .nrm) (Yes f6) := by
  refine tail6 (n := 20) ?_
  have hlenL : (L.map vZ).length = L.length := List.length_map _
  have hzn : decide (z < 0) = false := decide_eq_false (by omega)
  unfold S6_16 G6_16
  refine Tells.loop (fun j vs m => ∃ i : Nat, i + j = L.length ∧ vs = [.int .i64 z, .list .shared k (L.map vZ), .int .u8 t, .ptr pa 0 0, .ptr pf 0 0, .ptr p 0 0, vI i] ∧ Sep m ((p, fnO kg g) :: (pf, fnO kf f) :: (pa, fnO ka fa) :: fr)) ?_ (i := L.length) (by omega) ?_
  · rintro j vs m L2 ⟨i, j1, rfl, h⟩ hL
    by_cases hi : i < L.length
    · obtain ⟨y, hy⟩ : ∃ y, L[i]? = some y := ⟨_, List.getElem?_eq_getElem hi⟩
      have hgy : (L.map vZ)[i]? = some (.int .i64 y) := by rw [List.getElem?_map, hy]; rfl
      have hk1 : k = 1 := hkL.resolve_right (by intro e; rw [e] at hi; simp at hi)
      subst hk1
      have hby := hb y (List.mem_of_getElem? hy)
      unfold S6_9 G6_9
      refine .lenL ?_
      refine .lss ?_
      refine .condT (by first | assumption | omega) ?_
      refine .loadA ‹_› .z (by rfl) ?_
      refine .indexL (j := i) (by rfl) hgy ?_
      refine .loadC1 (by rfl) ?_
      refine Tells.call rfl (call19 (K := 6) (by omega) ⟨_, rfl, hkg⟩ hg (by omega) h) ?_
      rintro _ _ ⟨⟨e, e1, e2, rfl⟩, h⟩
      rw [(ent_iff (by omega) hg e1 e2).2 ⟨hby.1, fun ρ hρ => by
        rw [hgs, hs, iffS, hzn, semZ, hzn, Bool.and_eq_true] at hρ
        obtain ⟨r1, r2⟩ := hρ
        simp only [Bool.false_or] at r1 r2
        rw [r2] at r1
        have r3 : (L.all fun x => semZ x ρ) = true := by simpa using r1
        have r4 := List.all_eq_true.1 r3 y (List.mem_of_getElem? hy)
        rw [semZ, decide_eq_false (by omega)] at r4
        simpa using r4⟩]
      refine .not ?_
      refine .stay (by first | exact stayK_nil | (repeat first | exact stayK_nil | refine stayK_cons ?_ ?_ | refine stayK_not ?_ | exact stayN_zero | refine stayN_succ (by rfl) (by first | exact Sep.load1 ‹_› (by first | exact .z | exact .s .z | exact .s (.s .z) | exact .s (.s (.s .z)) | exact .s (.s (.s (.s .z))) | exact .s (.s (.s (.s (.s .z)))) | exact .s (.s (.s (.s (.s (.s .z))))) | exact .s (.s (.s (.s (.s (.s (.s .z)))))) | exact .s (.s (.s (.s (.s (.s (.s (.s .z))))))) | exact .s (.s (.s (.s (.s (.s (.s (.s (.s .z)))))))) | exact .s (.s (.s (.s (.s (.s (.s (.s (.s (.s .z))))))))) | exact .s (.s (.s (.s (.s (.s (.s (.s (.s (.s (.s .z)))))))))) | exact .s (.s (.s (.s (.s (.s (.s (.s (.s (.s (.s (.s .z))))))))))) | exact .s (.s (.s (.s (.s (.s (.s (.s (.s (.s (.s (.s (.s .z))))))))))))) (by rfl) | exact Sep.loadA ‹_› (by first | exact .z | exact .s .z | exact .s (.s .z) | exact .s (.s (.s .z)) | exact .s (.s (.s (.s .z))) | exact .s (.s (.s (.s (.s .z)))) | exact .s (.s (.s (.s (.s (.s .z))))) | exact .s (.s (.s (.s (.s (.s (.s .z)))))) | exact .s (.s (.s (.s (.s (.s (.s (.s .z))))))) | exact .s (.s (.s (.s (.s (.s (.s (.s (.s .z)))))))) | exact .s (.s (.s (.s (.s (.s (.s (.s (.s (.s .z))))))))) | exact .s (.s (.s (.s (.s (.s (.s (.s (.s (.s (.s .z)))))))))) | exact .s (.s (.s (.s (.s (.s (.s (.s (.s (.s (.s (.s .z))))))))))) | exact .s (.s (.s (.s (.s (.s (.s (.s (.s (.s (.s (.s (.s .z))))))))))))) (by rfl) | rfl) ?_)) ?_
      refine .condff ?_
      refine .add (by rfl) (by omega) ?_
      exact hL (j - 1) _ _ (by omega) ⟨i + 1, by omega, rfl, h⟩
    · unfold S6_9 G6_9
      refine .lenL ?_
      refine .lss ?_
      refine .condF (by first | assumption | omega) ?_
      refine .blk ?_
      exact tail15 (by omega) ht hkL hz hz5 hfa hka ha hf hk hs h.tail
  · exact ⟨0, by omega, rfl, h⟩

/-- PosIff is true. -/
theorem law6 {m : Mem} {fr : Heap} {z : Int} {t : Nat} {v : AV} {L : List Int} (hv : IsInts v L) (hlen : L.length < 1152921504606846976) (ht : t < 256) (h : Sep m fr) :
    WPc (Am.Call T) b6 [(0, .int .i64 z), (1, v), (2, .int .u8 t)] m (Yes f6 .nrm) (Yes f6) := by
  obtain ⟨k, rfl, hk⟩ := hv
  refine head_iff hk hlen h ?_
  intro pa pf ka kf fa f m hz hz5 hL6 hb hfa hka ha hf hkf hs h
  refine open6 (by omega) hf hkf h ?_
  intro p kg g m hkg hg hgs h
  exact tail_iff ht hk hz hz5 hL6 hb hfa hka ha hf hkf hs hg hkg hgs h
end Go.Proofs.P16
