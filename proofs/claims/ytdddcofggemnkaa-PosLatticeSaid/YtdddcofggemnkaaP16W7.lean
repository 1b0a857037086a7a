/- The walk through the functions: one as others together. -/
import Derived.Test.YtdddcofggemnkaaP16W6
namespace Go.Proofs.P16
set_option linter.all false
open Go Go.Am Go.Bdd
attribute [local irreducible] loadK storeK newK boxK tipK makeMapK buildTK buildK buildSliceK nilK binK unK condK convK eqvK pickK gK gDK vK extractK fieldK lookupK mapUpdateK appendK min2K max2K retK makeSliceK freezeK bytesK loopV blkK stayK sameK rangeK callK aFieldAddr aIndexAddr aIndexAddrA aLen aIndex aSlice

def iffS (z : Int) (zs : List Int) (ρ : Nat → Bool) : Bool := decide (z < 0) || (ρ z.toNat == zs.all fun x => semZ x ρ)

theorem semZ_self {n : Nat} {ρ : Nat → Bool} : semZ (n : Int) ρ = ρ n := by
  simp only [semZ, Int.toNat_natCast]; rw [decide_eq_false (by omega)]; rfl
theorem iff_own {n : Nat} {zs : List Int} {ρ : Nat → Bool} (h : (n : Int) ∈ zs) : ((ρ n && zs.all fun x => decide (x = n) || semZ x ρ) || !ρ n) = iffS n zs ρ := by
  simp only [iffS, Int.toNat_natCast]
  rw [decide_eq_false (show ¬ (n : Int) < 0 by omega), Bool.false_or]
  cases hr : ρ n with
  | false =>
    have : (zs.all fun x => semZ x ρ) = false := by
      rw [List.all_eq_false]
      exact ⟨_, h, by rw [semZ_self, hr]; simp⟩
    rw [this]; rfl
  | true =>
    have : (zs.all fun x => decide (x = n) || semZ x ρ) = zs.all fun x => semZ x ρ := by
      congr 1; funext x
      by_cases e : x = n
      · subst e; rw [semZ_self, hr]; simp
      · rw [decide_eq_false e]; rfl
    rw [this]; simp
theorem iff_not {n : Nat} {zs : List Int} {ρ : Nat → Bool} (h : (n : Int) ∉ zs) : ((ρ n && zs.all fun x => decide (x = n) || semZ x ρ) || (!ρ n && !zs.all fun x => decide (x = n) || semZ x ρ)) = iffS n zs ρ := by
  simp only [iffS, Int.toNat_natCast]
  rw [decide_eq_false (show ¬ (n : Int) < 0 by omega), Bool.false_or]
  have : (zs.all fun x => decide (x = n) || semZ x ρ) = zs.all fun x => semZ x ρ := by
    rw [Bool.eq_iff_iff, List.all_eq_true, List.all_eq_true]
    refine forall_congr' fun x => forall_congr' fun hx => ?_
    have hne : ¬ x = (n : Int) := fun e => h (by rw [← e]; exact hx)
    rw [decide_eq_false hne, Bool.false_or]
  rw [this]
  cases ρ n <;> cases (zs.all fun x => semZ x ρ) <;> rfl

theorem call12 {K : Nat} (hK : K ≤ 32) {m : Mem} {fr : Heap} {v : AV} {zs : List Int} {z : Int} (hv : IsInts v zs) (hl : zs.length ≤ 16) (hz : z < K) (hzs : ∀ x ∈ zs, x < K) (hs : Sep m fr) :
    Tells (Am.Call T 12 [.int .i64 z, v] m) (Res K fr (iffS z zs)) := by
  have hpow : 2 ^ K ≤ 2 ^ 32 := Nat.pow_le_pow_right (by omega) hK
  have hcap : ∀ t, cap K t ≤ 2 ^ 32 := fun t => Nat.le_trans cap_le hpow
  obtain ⟨k, rfl, hk⟩ := hv
  refine Tells.fn (zs.length + 1) rfl F12_ok rfl ?_
  show Tells (S12 (Am.Call T) _ m (.int .i64 z) (.list .shared k (zs.map vZ))) _
  have h : Sep ⟨m.objs, none⟩ fr := hs.objs rfl
  unfold S12 G12
  by_cases hz0 : z < 0
  · refine .new ‹_› ?_
    intro nw m h
    refine .lss ?_
    refine .condT (by first | assumption | omega) ?_
    refine Tells.call rfl (call10 h) ?_
    rintro _ m3 ⟨⟨k3, rfl, hk3⟩, h⟩
    refine .storeA ‹_› .z (by rfl) (by rfl) ?_
    intro m h
    refine .loadA ‹_› .z (by rfl) ?_
    refine .ret1 (by rfl) ?_
    intro m hobj
    exact ⟨⟨[], true⟩, ⟨k3, rfl, hk3⟩, (h.objs hobj).tail, gd_const, ⟨[], true⟩, can_const, fun ρ => by rw [sem_const]; simp [iffS, hz0], Nat.zero_le _, by rw [if_neg (by simp)]⟩
  · obtain ⟨n, rfl⟩ : ∃ n : Nat, z = n := ⟨z.toNat, by omega⟩
    refine .new ‹_› ?_
    intro nw m h
    refine .lss ?_
    refine .condff ?_
    refine Tells.call rfl (call46 h) ?_
    rintro _ m1 ⟨p, t, mm, rfl, h⟩
    refine .lenL ?_
    rw [List.length_map]
    refine Tells.loop (fun i vs m => ∃ (j : Nat) (ns : List Nd) (a : Nat), j + i = zs.length ∧ Tb K ns ∧ a < ns.length + 2 ∧ ns.length ≤ j * 8589934592 ∧ (∀ ρ, sem ns a ρ = (zs.take j).all fun x => decide (x = n) || semZ x ρ) ∧
      Sep m (tab p t mm ns ((nw, .row 0 [.list .full 0 [], .bool false]) :: fr)) ∧
      vs = [.int .i64 n, .list .shared k (zs.map vZ), .ptr nw 0 0, .ptr p 0 0, vI a, .list .shared k (zs.map vZ), vI zs.length, vI j]) ?_ (i := zs.length) (by omega) ?_
    · rintro i vs m L ⟨j, ns, a, i1, i2, i3, i4, i5, h, rfl⟩ hL
      by_cases hj : j < zs.length
      · obtain ⟨y, hy⟩ : ∃ y, zs[j]? = some y := ⟨_, List.getElem?_eq_getElem hj⟩
        have hgy : (zs.map vZ)[j]? = some (.int .i64 y) := by rw [List.getElem?_map, hy]; rfl
        have hyK : y < K := hzs y (List.mem_of_getElem? hy)
        have hk : k = 1 := hk.resolve_right (by rintro rfl; simp at hj)
        subst hk
        by_cases he : y = n
        · refine .lss ?_
          refine .condT (by first | assumption | omega) ?_
          refine .indexL (j := j) (by rfl) hgy ?_
          refine .loadC1 (by rfl) ?_
          refine .neq ?_
          refine .condF (by first | assumption | omega) ?_
          refine .add (by rfl) (by omega) ?_
          refine hL (i - 1) _ _ (by omega) ⟨j + 1, ns, a, by omega, i2, i3, Nat.le_trans i4 (Nat.mul_le_mul_right _ (Nat.le_succ j)), fun ρ => ?_, h, rfl⟩
          rw [List.take_add_one, hy, i5]
          simp [he]
        · refine .lss ?_
          refine .condT (by first | assumption | omega) ?_
          refine .indexL (j := j) (by rfl) hgy ?_
          refine .loadC1 (by rfl) ?_
          refine .neq ?_
          refine .condT (by first | assumption | omega) ?_
          refine Tells.call rfl (call25 h) ?_
          rintro _ m3 ⟨⟨k3, rfl, hk3⟩, h⟩
          skip
          refine Tells.call rfl (call48 ⟨k3, rfl, hk3⟩ (gd_varB hK hyK) i2 (by omega) h) ?_
          rintro _ m4 ⟨ns1, r1, rfl, h, d1⟩
          have l1 := d1.cnt
          have l1' := pre_len d1.pre
          have c1 := hcap (min (top ns1 a) (top ns1 r1))
          skip
          refine Tells.call rfl (call47 andOk and_fn d1.tb (by omega) d1.val (by omega) h) ?_
          rintro _ m5 ⟨ns2, r2, rfl, h, d2⟩
          have l2 := d2.cnt
          refine .add (by rfl) (by omega) ?_
          refine hL (i - 1) _ _ (by omega) ⟨j + 1, ns2, r2, by omega, d2.tb, d2.val, by rw [Nat.succ_mul]; omega, fun ρ => ?_, h, rfl⟩
          rw [List.take_add_one, hy, d2.sem, d1.sem, sem_pre d1.pre i3, i5, sem_varB]
          simp [he]
      · have hj : j = zs.length := by omega
        subst hj
        rw [List.take_length] at i5
        refine .lss ?_
        refine .condF (by first | assumption | omega) ?_
        refine .blk ?_
        refine Tells.call rfl (call25 h) ?_
        rintro _ m3 ⟨⟨k3, rfl, hk3⟩, h⟩
        skip
        refine Tells.call rfl (call48 ⟨k3, rfl, hk3⟩ (gd_varB hK hz) i2 (by omega) h) ?_
        rintro _ m4 ⟨ns1, r1, rfl, h, d1⟩
        have l1 := d1.cnt
        have l1' := pre_len d1.pre
        have v1 := d1.val
        have c1 := hcap (min (top ns1 r1) (top ns1 a))
        skip
        refine Tells.call rfl (call49 ⟨k, rfl, hk⟩ (by omega) h) ?_
        rintro _ m5 ⟨rfl, h⟩
        skip
        refine Tells.call rfl (call47 andOk and_fn d1.tb v1 (by omega) (by omega) h) ?_
        rintro _ m6 ⟨ns2, r2, rfl, h, d2⟩
        have l2 := d2.cnt
        have l2' := pre_len d2.pre
        have v2 := d2.val
        refine .build3 ?_
        have hn : n < K := by omega
        have tf : ∀ b, b < 2 → top ns2 b = far := fun b hb => top_const hb
        refine Tells.call rfl (call50 (n := ⟨n, 1, 0⟩) h (by omega)) ?_
        rintro _ m7 ⟨rfl, h⟩
        have d3 := mkN_spec d2.tb (n := ⟨n, 1, 0⟩) hn (by show 1 < _; omega) (by show 0 < _; omega) (by show n < top ns2 1; rw [tf 1 (by omega)]; simp only [far]; omega) (by show n < top ns2 0; rw [tf 0 (by omega)]; simp only [far]; omega)
        generalize (mkN ns2 ⟨n, 1, 0⟩).1 = r3 at *
        generalize (mkN ns2 ⟨n, 1, 0⟩).2 = ns3 at *
        have l3 := d3.cnt
        have l3' := pre_len d3.pre
        have v3 := d3.val
        have s3 : ∀ ρ, sem ns3 r3 ρ = !ρ n := fun ρ => by
          rw [d3.sem]; simp only [sem_one, sem_zero]; cases ρ n <;> rfl
        have s1 : ∀ ρ, sem ns3 r2 ρ = (ρ n && zs.all fun x => decide (x = n) || semZ x ρ) := fun ρ => by
          rw [sem_pre d3.pre v2, d2.sem, d1.sem, sem_pre d1.pre i3, i5, sem_varB]
          simp only [semZ, Int.toNat_natCast]
          rw [decide_eq_false (by omega)]; rfl
        by_cases hm : (n : Int) ∈ zs
        · have c3 := hcap (min (top ns3 r2) (top ns3 r3))
          refine .condT (by first | assumption | omega) ?_
          refine Tells.call rfl (call47 orOk or_fn d3.tb (by omega) v3 (by omega) h) ?_
          rintro _ m8 ⟨ns4, r4, rfl, h, d4⟩
          have l4 := d4.cnt
          skip
          refine Tells.call rfl (call51 d4.tb d4.val hK (by omega) h) ?_
          rintro _ m9 ⟨q, ⟨k4, rfl, hk4⟩, h, q2, q3⟩
          refine .storeA ‹_› (.s (.s (.s .z))) (by rfl) (by rfl) ?_
          intro m h
          refine .loadA ‹_› (.s (.s (.s .z))) (by rfl) ?_
          refine .ret1 (by rfl) ?_
          intro m hobj
          refine ⟨q, ⟨k4, rfl, hk4⟩, (h.objs hobj).tail.tail.tail.tail, q2, q3.congr fun ρ => ?_⟩
          rw [d4.sem]; show (sem ns3 r2 ρ || sem ns3 r3 ρ) = _
          rw [s1, s3, iff_own hm]
        · obtain ⟨ns4, r4, e4, d4⟩ := opp_spec (K := K) (a + 1) (Nat.lt_succ_self a) d3.tb (by omega)
          have c4 := hcap (top ns3 a)
          have l4 := d4.cnt
          have l4' := pre_len d4.pre
          have v4 := d4.val
          have c5 := hcap (min (top ns4 r3) (top ns4 r4))
          refine .condF (by first | assumption | omega) ?_
          refine Tells.call rfl (call53 hK (a + 1) e4 (Nat.lt_succ_self a) d3.tb (by omega) (by omega) h) ?_
          rintro _ m8 ⟨rfl, h⟩
          skip
          refine Tells.call rfl (call47 andOk and_fn d4.tb (by omega) v4 (by omega) h) ?_
          rintro _ m9 ⟨ns5, r5, rfl, h, d5⟩
          have l5 := d5.cnt
          have l5' := pre_len d5.pre
          have v5 := d5.val
          have c6 := hcap (min (top ns5 r2) (top ns5 r5))
          skip
          refine Tells.call rfl (call47 orOk or_fn d5.tb (by omega) v5 (by omega) h) ?_
          rintro _ m10 ⟨ns6, r6, rfl, h, d6⟩
          have l6 := d6.cnt
          skip
          refine Tells.call rfl (call51 d6.tb d6.val hK (by omega) h) ?_
          rintro _ m11 ⟨q, ⟨k4, rfl, hk4⟩, h, q2, q3⟩
          refine .storeA ‹_› (.s (.s (.s .z))) (by rfl) (by rfl) ?_
          intro m h
          refine .loadA ‹_› (.s (.s (.s .z))) (by rfl) ?_
          refine .ret1 (by rfl) ?_
          intro m hobj
          refine ⟨q, ⟨k4, rfl, hk4⟩, (h.objs hobj).tail.tail.tail.tail, q2, q3.congr fun ρ => ?_⟩
          rw [d6.sem]; show (sem ns5 r2 ρ || sem ns5 r5 ρ) = _
          rw [sem_pre d5.pre (by omega), sem_pre d4.pre (by omega), s1, d5.sem]
          show (_ || (sem ns4 r3 ρ && sem ns4 r4 ρ)) = _
          rw [sem_pre d4.pre v3, s3, d4.sem]
          show (_ || (_ && !sem ns3 a ρ)) = _
          rw [sem_pre d3.pre (by omega), sem_pre d2.pre (by omega), sem_pre d1.pre i3, i5, iff_not hm]
    · exact ⟨0, [], 1, by omega, ⟨.nil, fun n hn => by cases hn⟩, by simp, by simp, fun ρ => by rw [sem_one]; simp, h, rfl⟩
end Go.Proofs.P16
