/- The walk through the functions that are known. -/
import Derived.Test.YtdddcofggemnkaaP16W8
namespace Go.Proofs.P16
set_option linter.all false
open Go Go.Am Go.Bdd
attribute [local irreducible] loadK storeK newK boxK tipK makeMapK buildTK buildK buildSliceK nilK binK unK condK convK eqvK pickK gK gDK vK extractK fieldK lookupK mapUpdateK appendK min2K max2K retK makeSliceK freezeK bytesK loopV blkK stayK sameK rangeK callK aFieldAddr aIndexAddr aIndexAddrA aLen aIndex aSlice

theorem tk {K : Nat} (hK : K ≤ 8) {f : BF} {g : (Nat → Bool) → Bool} (h : Tkn K f g) : ∀ ρ, f.sem ρ = g ρ :=
  h.or.resolve_right fun ⟨_, h⟩ => by
    have h1 : 2 ^ K ≤ 2 ^ 8 := Nat.pow_le_pow_right (by omega) hK
    have h2 : cap K 0 = 2 ^ K - 1 := rfl
    omega

theorem ent_iff {K : Nat} (hK : K ≤ 8) {f q : BF} {z : Int} (hf : Gd K f) (hq : Gd K q) (ht : Tkn K q (fun ρ => f.sem ρ && semZ z ρ)) : entB f q z = true ↔ 0 ≤ z ∧ ∀ ρ, f.sem ρ = true → ρ z.toNat = true := by
  simp only [entB, Bool.and_eq_true, decide_eq_true_eq]
  rw [and_comm, same_iff hq.toCan hf.toCan]
  refine and_congr_right fun hz => forall_congr' fun ρ => ?_
  rw [tk hK ht]
  simp only [semZ, decide_eq_false (show ¬ z < 0 by omega), Bool.false_or]
  cases f.sem ρ <;> cases ρ z.toNat <;> simp

theorem ent_not {K : Nat} (hK : K ≤ 8) {f q : BF} {z : Int} (hf : Gd K f) (hq : Gd K q) (ht : Tkn K q (fun ρ => f.sem ρ && semZ z ρ)) (ρ : Nat → Bool) (h1 : f.sem ρ = true) (h2 : ρ z.toNat = false) : entB f q z = false := by
  cases h : entB f q z with
  | false => rfl
  | true =>
    have := ((ent_iff hK hf hq ht).1 h).2 ρ h1
    rw [h2] at this; cases this

set_option maxHeartbeats 4000000 in
theorem call15 {m : Mem} {fr : Heap} (hs : Sep m fr) : Tells (Am.Call T 15 [] m) fun x m' => x = .bool true ∧ Sep m' fr := by
  refine Tells.fn 0 rfl F15_ok rfl ?_
  show Tells (S15 (Am.Call T) 0 m) _
  have h : Sep ⟨m.objs, none⟩ fr := hs.objs rfl
  unfold S15 G15
  refine Tells.call rfl (call25 h) ?_
  rintro _ _ ⟨⟨_, rfl, k1⟩, h⟩
  refine .bs2 ?_
  refine Tells.call rfl (call12 (K := 4) (by omega) (zs := [1, 2]) ⟨1, rfl, .inl rfl⟩ (by decide) (by decide) (by decide) h) ?_
  rintro _ _ ⟨f1, ⟨_, rfl, k2⟩, h, f1g, f1t⟩
  skip
  refine Tells.call rfl (call11 (K := 4) (by omega) ⟨_, rfl, k1⟩ ⟨_, rfl, k2⟩ (gd_varB (by omega) (by decide)) f1g h) ?_
  rintro _ _ ⟨f, ⟨_, rfl, kf⟩, h, fg, ft⟩
  have fs : ∀ ρ, f.sem ρ = (ρ 0 && (ρ 1 && ρ 2)) := fun ρ => by
    rw [tk (by omega) ft, tk (by omega) f1t, sem_varB]
    simp only [semZ, iffS, List.all_cons, List.all_nil]
    show (ρ 0 && (ρ 0 == (ρ 1 && (ρ 2 && true)))) = _
    cases ρ 0 <;> cases ρ 1 <;> cases ρ 2 <;> rfl
  refine .new ‹_› ?_
  intro nw m h
  refine .storeA ‹_› .z (by rfl) (by rfl) ?_
  intro m h
  refine Tells.call rfl (call25 h) ?_
  rintro _ _ ⟨⟨_, rfl, k3⟩, h⟩
  skip
  refine Tells.call rfl (call25 h) ?_
  rintro _ _ ⟨⟨_, rfl, k4⟩, h⟩
  skip
  refine Tells.call rfl (call11 (K := 4) (by omega) ⟨_, rfl, k3⟩ ⟨_, rfl, k4⟩ (gd_varB (by omega) (by decide)) (gd_varB (by omega) (by decide)) h) ?_
  rintro _ _ ⟨g1, ⟨_, rfl, k5⟩, h, g1g, g1t⟩
  skip
  refine Tells.call rfl (call24 (K := 4) (by omega) ⟨_, rfl, k5⟩ g1g (by decide) h) ?_
  rintro _ _ ⟨g, ⟨_, rfl, kg⟩, h, gg, gt⟩
  have g1s : ∀ ρ, g1.sem ρ = (ρ 0 && ρ 1) := fun ρ => by rw [tk (by omega) g1t]; simp only [sem_varB]; rfl
  have gs : g = varB 1 := (same_iff gg.toCan (gd_varB (K := 4) (by omega) (by decide)).toCan).2 fun ρ => by
    rw [tk (by omega) gt]
    simp only [g1s, sem_varB]
    show (((upd ρ 0 false) 0 && (upd ρ 0 false) 1) || ((upd ρ 0 true) 0 && (upd ρ 0 true) 1)) = ρ 1
    simp [upd]
  refine .new ‹_› ?_
  intro nw m h
  refine .storeA ‹_› .z (by rfl) (by rfl) ?_
  intro m h
  refine Tells.call rfl (call25 h) ?_
  rintro _ _ ⟨⟨_, rfl, k6⟩, h⟩
  skip
  refine Tells.call rfl (call10 h) ?_
  rintro _ _ ⟨⟨_, rfl, k7⟩, h⟩
  skip
  refine Tells.call rfl (call23 (K := 4) (by omega) ⟨_, rfl, k6⟩ ⟨_, rfl, k7⟩ (gd_varB (by omega) (by decide)) gd_const h) ?_
  rintro _ _ ⟨e, ⟨_, rfl, ke⟩, h, eg, et⟩
  have es : e = ⟨[], true⟩ := (same_iff eg.toCan (can_const (K := 4))).2 fun ρ => by rw [tk (by omega) et, sem_const]; simp
  subst es
  refine .new ‹_› ?_
  intro nw m h
  refine .storeA ‹_› .z (by rfl) (by rfl) ?_
  intro m h
  refine .loadA ‹_› (.s (.s .z)) (by rfl) ?_
  refine Tells.call rfl (call19 (K := 4) (by omega) ⟨_, rfl, kf⟩ fg (by decide) h) ?_
  rintro _ _ ⟨⟨q1, a1, a2, rfl⟩, h⟩
  rw [(ent_iff (by omega) fg a1 a2).2 ⟨by decide, fun ρ hρ => by rw [fs] at hρ; simp only [Bool.and_eq_true] at hρ; exact hρ.2.1⟩]
  refine .gDtt ?_
  refine .loadA ‹_› (.s (.s .z)) (by rfl) ?_
  refine .gDtt ?_
  refine Tells.call rfl (call19 (K := 4) (by omega) ⟨_, rfl, kf⟩ fg (by decide) h) ?_
  rintro _ _ ⟨⟨q2, a3, a4, rfl⟩, h⟩
  rw [(ent_iff (by omega) fg a3 a4).2 ⟨by decide, fun ρ hρ => by rw [fs] at hρ; simp only [Bool.and_eq_true] at hρ; exact hρ.2.2⟩]
  refine .picktt ?_
  refine .gDtt ?_
  refine .loadA ‹_› (.s (.s .z)) (by rfl) ?_
  refine .gDtt ?_
  refine Tells.call rfl (call19 (K := 4) (by omega) ⟨_, rfl, kf⟩ fg (by decide) h) ?_
  rintro _ _ ⟨⟨q3, a5, a6, rfl⟩, h⟩
  rw [ent_not (by omega) fg a5 a6 (fun x => decide (x < 3)) (by rw [fs]; rfl) rfl]
  refine .gDtt ?_
  refine .not ?_
  refine .picktt ?_
  refine .gDtt ?_
  refine .loadA ‹_› (.s .z) (by rfl) ?_
  refine .gDtt ?_
  refine Tells.call rfl (call25 h) ?_
  rintro _ _ ⟨⟨_, rfl, k8⟩, h⟩
  refine .gDtt ?_
  refine Tells.call rfl (call22 ⟨_, rfl, kg⟩ ⟨_, rfl, k8⟩ gg.len h) ?_
  rintro _ _ ⟨rfl, h⟩
  rw [decide_eq_true gs]
  refine .picktt ?_
  refine .gDtt ?_
  refine .loadA ‹_› .z (by rfl) ?_
  refine .gDtt ?_
  refine Tells.call rfl (call10 h) ?_
  rintro _ _ ⟨⟨_, rfl, k9⟩, h⟩
  refine .gDtt ?_
  refine Tells.call rfl (call22 ⟨_, rfl, ke⟩ ⟨_, rfl, k9⟩ (by decide) h) ?_
  rintro _ _ ⟨rfl, h⟩
  rw [decide_eq_true rfl]
  refine .picktt ?_
  refine .gDtt ?_
  refine .loadA ‹_› .z (by rfl) ?_
  refine .gDtt ?_
  refine Tells.call rfl (call13 ⟨_, rfl, ke⟩ h) ?_
  rintro _ _ ⟨rfl, h⟩
  refine .gDtt ?_
  refine .eql ?_
  refine .picktt ?_
  refine .gDtt ?_
  refine Tells.call rfl (call25 h) ?_
  rintro _ _ ⟨⟨_, rfl, k10⟩, h⟩
  refine .gDtt ?_
  refine .bs1 ?_
  refine .gDtt ?_
  refine Tells.call rfl (call14 (K := 4) (zs := [3]) ⟨_, rfl, k10⟩ (gd_varB (by omega) (by decide)) ⟨1, rfl, .inl rfl⟩ (by decide) h) ?_
  rintro _ _ ⟨rfl, h⟩
  rw [sem_varB, show semZ 3 (rowR [3]) = true from rfl]
  refine .picktt ?_
  refine .gDtt ?_
  refine Tells.call rfl (call25 h) ?_
  rintro _ _ ⟨⟨_, rfl, k11⟩, h⟩
  refine .gDtt ?_
  refine Tells.call rfl (call14 (K := 4) (zs := []) ⟨_, rfl, k11⟩ (gd_varB (by omega) (by decide)) ⟨0, rfl, .inr rfl⟩ (by decide) h) ?_
  rintro _ _ ⟨rfl, h⟩
  rw [sem_varB, show semZ 3 (rowR []) = false from rfl]
  refine .gDtt ?_
  refine .not ?_
  refine .picktt ?_
  refine .stay (by first | exact stayK_nil | (repeat first | exact stayK_nil | refine stayK_cons ?_ ?_ | refine stayK_not ?_ | exact stayN_zero | refine stayN_succ (by rfl) (by first | exact Sep.load1 ‹_› (by first | exact .z | exact .s .z | exact .s (.s .z) | exact .s (.s (.s .z)) | exact .s (.s (.s (.s .z))) | exact .s (.s (.s (.s (.s .z)))) | exact .s (.s (.s (.s (.s (.s .z))))) | exact .s (.s (.s (.s (.s (.s (.s .z)))))) | exact .s (.s (.s (.s (.s (.s (.s (.s .z))))))) | exact .s (.s (.s (.s (.s (.s (.s (.s (.s .z)))))))) | exact .s (.s (.s (.s (.s (.s (.s (.s (.s (.s .z))))))))) | exact .s (.s (.s (.s (.s (.s (.s (.s (.s (.s (.s .z)))))))))) | exact .s (.s (.s (.s (.s (.s (.s (.s (.s (.s (.s (.s .z))))))))))) | exact .s (.s (.s (.s (.s (.s (.s (.s (.s (.s (.s (.s (.s .z))))))))))))) (by rfl) | exact Sep.loadA ‹_› (by first | exact .z | exact .s .z | exact .s (.s .z) | exact .s (.s (.s .z)) | exact .s (.s (.s (.s .z))) | exact .s (.s (.s (.s (.s .z)))) | exact .s (.s (.s (.s (.s (.s .z))))) | exact .s (.s (.s (.s (.s (.s (.s .z)))))) | exact .s (.s (.s (.s (.s (.s (.s (.s .z))))))) | exact .s (.s (.s (.s (.s (.s (.s (.s (.s .z)))))))) | exact .s (.s (.s (.s (.s (.s (.s (.s (.s (.s .z))))))))) | exact .s (.s (.s (.s (.s (.s (.s (.s (.s (.s (.s .z)))))))))) | exact .s (.s (.s (.s (.s (.s (.s (.s (.s (.s (.s (.s .z))))))))))) | exact .s (.s (.s (.s (.s (.s (.s (.s (.s (.s (.s (.s (.s .z))))))))))))) (by rfl) | rfl) ?_)) ?_
  refine .ret1 (by rfl) ?_
  intro m hobj
  exact ⟨rfl, (h.objs hobj).tail.tail.tail⟩
end Go.Proofs.P16
