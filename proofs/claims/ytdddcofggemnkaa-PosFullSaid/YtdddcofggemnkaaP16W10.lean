/- The walk through PosFull. -/
import Derived.Test.YtdddcofggemnkaaP16W9
namespace Go.Proofs.P16
set_option linter.unusedSimpArgs false
set_option linter.unusedVariables false
set_option linter.unusedSectionVars false
set_option linter.unnecessarySimpa false
open Go Go.Am Go.Bdd
attribute [local irreducible] loadK storeK newK boxK tipK makeMapK buildTK buildK buildSliceK nilK binK unK condK convK eqvK pickK gK gDK vK extractK fieldK lookupK mapUpdateK appendK min2K max2K retK makeSliceK freezeK bytesK loopV blkK stayK sameK rangeK callK aFieldAddr aIndexAddr aIndexAddrA aLen aIndex aSlice

def zs24 : List Int := [0, 1, 2, 3, 4, 5, 6, 7, 8, 9, 10, 11, 12, 13, 14, 15, 16, 17, 18, 19, 20, 21, 22, 23]
theorem row24 : ∀ n, n < 24 → rowR zs24 n = true := by decide
def dia : BF := ⟨[⟨12, 1, 0⟩, ⟨12, 0, 1⟩, ⟨0, 2, 3⟩], false⟩
theorem dia_can : Bdd.Can 24 dia where
  made _ := by
    refine ⟨rfl, dia.nodes, 4, 5, [(0, 0), (1, 1), (2, 2), (3, 3), (4, 4)], 4, ⟨?_, by decide⟩, by decide, by decide, by decide, by rfl⟩
    have h1 : WF [⟨12, 1, 0⟩] := .snoc .nil ⟨by decide, by decide, by decide, by decide, by decide, by decide⟩ (by simp)
    have h2 : WF [⟨12, 1, 0⟩, ⟨12, 0, 1⟩] := .snoc h1 ⟨by decide, by decide, by decide, by decide, by decide, by decide⟩ (by decide)
    exact .snoc h2 ⟨by decide, by decide, by decide, by decide, by decide, by decide⟩ (by decide)
theorem dia_sem {ρ : Nat → Bool} : dia.sem ρ = iffS 0 [12] ρ := by
  have e : dia.sem ρ = sem dia.nodes 4 ρ := rfl
  have e2 : iffS 0 [12] ρ = (ρ 0 == (ρ 12 && true)) := rfl
  rw [e, e2]
  simp only [sem, vals, dia]
  cases ρ 0 <;> cases ρ 12 <;> rfl

theorem full_one {K : Nat} {f : BF} {g : (Nat → Bool) → Bool} {ρ : Nat → Bool} (h : Tkn K f g) (hg : g ρ = true) : f.sem ρ = true := by
  rcases h.or with h | ⟨rfl, _⟩
  · rw [h, hg]
  · exact sem_const

theorem call3 {m : Mem} {fr : Heap} (hs : Sep m fr) : Tells (Am.Call T 3 [] m) fun x _ => x = .bool true := by
  refine Tells.fn 13 rfl F3_ok rfl ?_
  show Tells (S3 (Am.Call T) _ m) _
  have h : Sep ⟨m.objs, none⟩ fr := hs.objs rfl
  unfold S3 G3
  refine Tells.call rfl (call10 h) ?_
  rintro _ _ ⟨⟨k1, rfl, hk1⟩, h⟩
  refine .new ‹_› ?_
  intro nw m h
  refine .storeA ‹_› .z (by rfl) (by rfl) ?_
  intro m h
  refine Tells.loop (fun i vs m => ∃ (j most k : Nat) (f : BF), j + i = 12 ∧ Gd 24 f ∧ (k = 3 ∨ f.nodes = []) ∧ f.sem (rowR zs24) = true ∧ (j = 0 → f = ⟨[], true⟩) ∧ (0 < j → 0 < most) ∧ most ≤ 256 ∧ vs = [.ptr nw 0 0, vI most, vI j] ∧ Sep m ((nw, .row 0 [.list .shared k (f.nodes.map encNd), .bool f.one]) :: fr)) ?_ (i := 12) (by omega) ?_
  · rintro i vs m L ⟨j, most, k, f, i1, i2, i3, i4, i5, i6, i7, rfl, h⟩ hL
    by_cases hj : j < 12
    · refine .lss ?_
      refine .condT (by first | assumption | omega) ?_
      refine .loadA ‹_› .z (by rfl) ?_
      refine .add (by rfl) (by omega) ?_
      refine .bs1 ?_
      refine Tells.call rfl (call12 (K := 24) (by omega) (zs := [12 + j]) ⟨1, rfl, .inl rfl⟩ (by simp) (by omega) (by simp; omega) h) ?_
      rintro _ _ ⟨q, ⟨k2, rfl, hk2⟩, h, q1, q2⟩
      skip
      refine Tells.call rfl (call11 (K := 24) (by omega) ⟨_, rfl, i3⟩ ⟨_, rfl, hk2⟩ i2 q1 h) ?_
      rintro _ _ ⟨r, ⟨k3, rfl, hk3⟩, h, r1, r2⟩
      refine .storeA ‹_› .z (by rfl) (by rfl) ?_
      intro m h
      refine .stay (by first | exact stayK_nil | (repeat first | exact stayK_nil | refine stayK_cons ?_ ?_ | refine stayK_not ?_ | exact stayN_zero | refine stayN_succ (by rfl) (by first | exact Sep.load1 ‹_› (by first | exact .z | exact .s .z | exact .s (.s .z) | exact .s (.s (.s .z)) | exact .s (.s (.s (.s .z))) | exact .s (.s (.s (.s (.s .z)))) | exact .s (.s (.s (.s (.s (.s .z))))) | exact .s (.s (.s (.s (.s (.s (.s .z)))))) | exact .s (.s (.s (.s (.s (.s (.s (.s .z))))))) | exact .s (.s (.s (.s (.s (.s (.s (.s (.s .z)))))))) | exact .s (.s (.s (.s (.s (.s (.s (.s (.s (.s .z))))))))) | exact .s (.s (.s (.s (.s (.s (.s (.s (.s (.s (.s .z)))))))))) | exact .s (.s (.s (.s (.s (.s (.s (.s (.s (.s (.s (.s .z))))))))))) | exact .s (.s (.s (.s (.s (.s (.s (.s (.s (.s (.s (.s (.s .z))))))))))))) (by rfl) | exact Sep.loadA ‹_› (by first | exact .z | exact .s .z | exact .s (.s .z) | exact .s (.s (.s .z)) | exact .s (.s (.s (.s .z))) | exact .s (.s (.s (.s (.s .z)))) | exact .s (.s (.s (.s (.s (.s .z))))) | exact .s (.s (.s (.s (.s (.s (.s .z)))))) | exact .s (.s (.s (.s (.s (.s (.s (.s .z))))))) | exact .s (.s (.s (.s (.s (.s (.s (.s (.s .z)))))))) | exact .s (.s (.s (.s (.s (.s (.s (.s (.s (.s .z))))))))) | exact .s (.s (.s (.s (.s (.s (.s (.s (.s (.s (.s .z)))))))))) | exact .s (.s (.s (.s (.s (.s (.s (.s (.s (.s (.s (.s .z))))))))))) | exact .s (.s (.s (.s (.s (.s (.s (.s (.s (.s (.s (.s (.s .z))))))))))))) (by rfl) | rfl) ?_)) ?_
      refine .loadA ‹_› .z (by rfl) ?_
      refine Tells.call rfl (call13 ⟨_, rfl, hk3⟩ h) ?_
      rintro _ _ ⟨rfl, h⟩
      have hr := r1.len
      refine .max2 (c := ((max most r.nodes.length : Nat) : Int)) (by omega) ?_
      refine .loadA ‹_› .z (by rfl) ?_
      refine Tells.call rfl (call13 ⟨_, rfl, hk3⟩ h) ?_
      rintro _ _ ⟨rfl, h⟩
      refine .gtr ?_
      refine .condF (by first | assumption | omega) ?_
      refine .add (by rfl) (by omega) ?_
      refine hL (i - 1) _ _ (by omega) ⟨j + 1, max most r.nodes.length, k3, r, by omega, r1, hk3, full_one r2 ?_, fun h => by omega, fun _ => ?_, by omega, rfl, h⟩
      · show (f.sem (rowR zs24) && q.sem (rowR zs24)) = true
        rw [i4, full_one q2]
        · rfl
        · show (decide ((j : Int) < 0) || (rowR zs24 (j : Int).toNat == ((decide (12 + (j : Int) < 0) || rowR zs24 (12 + (j : Int)).toNat) && true))) = true
          rw [row24 _ (by omega), row24 _ (by omega)]
          simp
      · by_cases h0 : j = 0
        · subst h0
          have e1 : q = dia := q2.eq dia_can fun ρ => dia_sem
          have e2 : r = dia := by
            refine r2.eq dia_can fun ρ => ?_
            rw [i5 rfl, sem_const, e1]; rfl
          rw [e2]
          exact Nat.lt_of_lt_of_le (by decide) (Nat.le_max_right _ _)
        · have := i6 (by omega); omega
    · have := i6 (by omega)
      refine .lss ?_
      refine .condF (by first | assumption | omega) ?_
      refine .blk ?_
      refine .gtr ?_
      refine .gT (by rfl) (by first | assumption | omega) ?_
      refine .loadA ‹_› .z (by rfl) ?_
      refine .gT (by rfl) (by first | assumption | omega) ?_
      refine .buildSlice (es := [.int .i64 0, .int .i64 1, .int .i64 2, .int .i64 3, .int .i64 4, .int .i64 5, .int .i64 6, .int .i64 7, .int .i64 8, .int .i64 9, .int .i64 10, .int .i64 11, .int .i64 12, .int .i64 13, .int .i64 14, .int .i64 15, .int .i64 16, .int .i64 17, .int .i64 18, .int .i64 19, .int .i64 20, .int .i64 21, .int .i64 22, .int .i64 23]) (by decide) (by rfl) (by rfl) ?_
      refine .gT (by rfl) (by first | assumption | omega) ?_
      refine Tells.call rfl (call14 (K := 24) (zs := zs24) ⟨_, rfl, i3⟩ i2 ⟨1, rfl, .inl rfl⟩ (by decide) h) ?_
      rintro _ _ ⟨rfl, h⟩
      rw [i4]
      refine .pickT (by first | assumption | omega) ?_
      refine .gtt ?_
      refine Tells.call rfl (call15 h) ?_
      rintro _ _ ⟨rfl, h⟩
      refine .picktt ?_
      refine .ret1 (by rfl) ?_
      intro m hobj
      rfl
  · exact ⟨0, 0, k1, ⟨[], true⟩, by omega, gd_const, .inr rfl, sem_const, fun _ => rfl, fun h => by omega, by omega, rfl, h⟩
end Go.Proofs.P16
