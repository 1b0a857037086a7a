/- The walk through PosIff: the region whose effects come in any order. -/
import Derived.Test.YtdddcofggemnkaaP16W20
namespace Go.Proofs.P16
set_option linter.all false
open Go Go.Am Go.Bdd

/-- How it stands when some of the operations have been. -/
structure At6 (fr : Heap) (env : Env) (z : Int) (pf kf : Nat) (f : BF) (S : Nat → Bool) (L : Env) (M : Mem) : Prop where
  base : ∀ t, t < 11 → L.get t = env.get t
  s0 : S 0 = true → L.get 67 = some (.agg (fnC kf f))
  s1 : S 1 = true → L.get 68 = some (.int .i64 z)
  s2 : S 2 = true → ∃ x, L.get 69 = some x ∧ IsFn x (varB z)
  fresh : S 3 = false → S 5 = false
  newer : S 4 = false → S 5 = false
  mem : ∃ (g : BF) (k p : Nat), (S 3 = true → L.get 70 = some (.agg (fnC k g)) ∧ (k = 3 ∨ g.nodes = []) ∧ Gd 6 g ∧ ∀ ρ, g.sem ρ = (f.sem ρ && semZ z ρ)) ∧ (S 4 = true → L.get 11 = some (.ptr p 0 0)) ∧
    Sep M ((if S 4 then [(p, if S 5 then fnO k g else .row 0 [.list .full 0 [], .bool false])] else []) ++ (pf, fnO kf f) :: fr)

theorem open6 {m : Mem} {fr : Heap} {z : Int} {y1 y2 y3 : AV} {pf kf : Nat} {f : BF} (hz : z < 6) (hf : Gd 6 f) (hk : kf = 3 ∨ f.nodes = []) (h : Sep m ((pf, fnO kf f) :: fr))
    (hT : ∀ (p k : Nat) (g : BF) (m : Mem), (k = 3 ∨ g.nodes = []) → Gd 6 g → (∀ ρ, g.sem ρ = (f.sem ρ && semZ z ρ)) → Sep m ((p, fnO k g) :: (pf, fnO kf f) :: fr) →
      WPc (Am.Call T) b6_16 [(0, .int .i64 z), (1, y1), (2, y2), (7, y3), (10, .ptr pf 0 0), (11, .ptr p 0 0)] m (Yes f6 .nrm) (Yes f6)) :
    WPc (Am.Call T) b6_17 [(0, .int .i64 z), (1, y1), (2, y2), (7, y3), (10, .ptr pf 0 0)] m (Yes f6 .nrm) (Yes f6) := by
  refine reg6 (tree_inv (At6 fr [(0, .int .i64 z), (1, y1), (2, y2), (7, y3), (10, .ptr pf 0 0)] z pf kf f) (by decide) ?_ ?_ ?_)
  · intro S L M i p hI hp hS hall
    obtain ⟨a1, a2, a3, a4, a5, a6, g, k, q, b1, b2, b3⟩ := hI
    have i10 : L.get 10 = some (.ptr pf 0 0) := (a1 10 (by decide)).trans rfl
    have i0 : L.get 0 = some (.int .i64 z) := (a1 0 (by decide)).trans rfl
    match i, hp with
    | 0, hp =>
      cases hp
      have ho : M.objs[pf]? = some (fnO kf f) := b3.at_ (pf, _) (by simp)
      refine ⟨_, _, eo_load i10 ho, ⟨fun t ht => by rw [get_push, if_neg (by omega)]; exact a1 t ht, fun _ => by rw [get_push, if_pos rfl], fun hs => ?_, fun hs => ?_, fun hs => ?_, fun hs => ?_, g, k, q, fun hs => ?_, fun hs => ?_, ?_⟩⟩
      · rw [get_push, if_neg (by decide)]; exact a3 (by simpa using hs)
      · rw [get_push, if_neg (by decide)]; exact a4 (by simpa using hs)
      · simpa using a5 (by simpa using hs)
      · simpa using a6 (by simpa using hs)
      · rw [get_push, if_neg (by decide)]; exact b1 (by simpa using hs)
      · rw [get_push, if_neg (by decide)]; exact b2 (by simpa using hs)
      · simpa using b3
    | 1, hp =>
      cases hp
      refine ⟨_, _, eo_mov i0, ⟨fun t ht => by rw [get_push, if_neg (by omega)]; exact a1 t ht, fun hs => ?_, fun _ => by rw [get_push, if_pos rfl], fun hs => ?_, fun hs => ?_, fun hs => ?_, g, k, q, fun hs => ?_, fun hs => ?_, ?_⟩⟩
      · rw [get_push, if_neg (by decide)]; exact a2 (by simpa using hs)
      · rw [get_push, if_neg (by decide)]; exact a4 (by simpa using hs)
      · simpa using a5 (by simpa using hs)
      · simpa using a6 (by simpa using hs)
      · rw [get_push, if_neg (by decide)]; exact b1 (by simpa using hs)
      · rw [get_push, if_neg (by decide)]; exact b2 (by simpa using hs)
      · simpa using b3
    | 2, hp =>
      cases hp
      have i68 := a3 (hall 1 (by decide) (by decide))
      obtain ⟨r, M', e1, e2, e3⟩ := eo_call1 (call := Am.Call T) (f := 25) i68 (call25 b3)
      refine ⟨r, M', e1, ⟨fun t ht => by rw [get_push, if_neg (by omega)]; exact a1 t ht, fun hs => ?_, fun hs => ?_, fun _ => ⟨r, by rw [get_push, if_pos rfl], e2⟩, fun hs => ?_, fun hs => ?_, g, k, q, fun hs => ?_, fun hs => ?_, ?_⟩⟩
      · rw [get_push, if_neg (by decide)]; exact a2 (by simpa using hs)
      · rw [get_push, if_neg (by decide)]; exact a3 (by simpa using hs)
      · simpa using a5 (by simpa using hs)
      · simpa using a6 (by simpa using hs)
      · rw [get_push, if_neg (by decide)]; exact b1 (by simpa using hs)
      · rw [get_push, if_neg (by decide)]; exact b2 (by simpa using hs)
      · simpa using e3
    | 3, hp =>
      cases hp
      have i67 := a2 (hall 0 (by decide) (by decide))
      obtain ⟨x, i69, k2, rfl, hk2⟩ := a4 (hall 2 (by decide) (by decide))
      obtain ⟨r, M', e1, g', ⟨k', rfl, hk'⟩, e3, e4, e5⟩ := eo_call2 (call := Am.Call T) (f := 11) i67 i69 (call11 (K := 6) (by omega) ⟨kf, rfl, hk⟩ ⟨k2, rfl, hk2⟩ hf (gd_varB (by omega) (by omega)) b3)
      have hS5 := a5 hS
      refine ⟨_, M', e1, ⟨fun t ht => by rw [get_push, if_neg (by omega)]; exact a1 t ht, fun hs => ?_, fun hs => ?_, fun hs => ?_, fun hs => ?_, fun hs => ?_, g', k', q, fun hs => ?_, fun hs => ?_, ?_⟩⟩
      · rw [get_push, if_neg (by decide)]; exact a2 (by simpa using hs)
      · rw [get_push, if_neg (by decide)]; exact a3 (by simpa using hs)
      · rw [get_push, if_neg (by decide)]; exact a4 (by simpa using hs)
      · simp at hs
      · simpa using a6 (by simpa using hs)
      · exact ⟨by rw [get_push, if_pos rfl], hk', e4, fun ρ => by rw [tk (by omega) e5, sem_varB]⟩
      · rw [get_push, if_neg (by decide)]; exact b2 (by simpa using hs)
      · rw [hS5] at e3; simpa [hS5] using e3
    | 4, hp =>
      cases hp
      have hS5 := a6 hS
      rw [hS] at b3
      refine ⟨_, _, eo_new, ⟨fun t ht => by rw [get_push, if_neg (by omega)]; exact a1 t ht, fun hs => ?_, fun hs => ?_, fun hs => ?_, fun hs => ?_, fun hs => ?_, g, k, M.objs.length, fun hs => ?_, fun hs => ?_, ?_⟩⟩
      · rw [get_push, if_neg (by decide)]; exact a2 (by simpa using hs)
      · rw [get_push, if_neg (by decide)]; exact a3 (by simpa using hs)
      · rw [get_push, if_neg (by decide)]; exact a4 (by simpa using hs)
      · simpa using a5 (by simpa using hs)
      · simp at hs
      · rw [get_push, if_neg (by decide)]; exact b1 (by simpa using hs)
      · rw [get_push, if_pos rfl]
      · simpa [hS5] using b3.push (.row 0 [.list .full 0 [], .bool false])
    | 5, hp =>
      cases hp
      have h3 := hall 3 (by decide) (by decide)
      have h4 := hall 4 (by decide) (by decide)
      obtain ⟨i70, c1, c2, c3⟩ := b1 h3
      have i11 := b2 h4
      rw [h4, hS] at b3
      have ho : M.objs[q]? = some (.row 0 [.list .full 0 [], .bool false]) := b3.at_ (q, _) (by simp)
      refine ⟨_, _, eo_store i11 i70 ho rfl rfl, ⟨a1, fun hs => ?_, fun hs => ?_, fun hs => ?_, fun hs => ?_, fun hs => ?_, g, k, q, fun _ => ⟨i70, c1, c2, c3⟩, fun _ => i11, ?_⟩⟩
      · exact a2 (by simpa using hs)
      · exact a3 (by simpa using hs)
      · exact a4 (by simpa using hs)
      · rw [h3] at hs; simp at hs
      · rw [h4] at hs; simp at hs
      · rw [h4]
        simpa using b3.put (o' := fnO k g) .z
    | i + 6, hp => cases hp
  · intro S L M hI hall
    obtain ⟨a1, a2, a3, a4, a5, a6, g, k, q, b1, b2, b3⟩ := hI
    obtain ⟨i70, c1, c2, c3⟩ := b1 (hall 3 (by decide))
    have i11 := b2 (hall 4 (by decide))
    rw [hall 4 (by decide), hall 5 (by decide)] at b3
    have e : (L.keep [0, 1, 2, 7, 10, 11]).keep [0, 1, 2, 7, 10, 11] = [(0, .int .i64 z), (1, y1), (2, y2), (7, y3), (10, .ptr pf 0 0), (11, .ptr q 0 0)] := by
      have e0 := a1 0 (by decide)
      have e1 := a1 1 (by decide)
      have e2 := a1 2 (by decide)
      have e7 := a1 7 (by decide)
      have e10 := a1 10 (by decide)
      simp only [Env.keep, e0, e1, e2, e7, e10, i11]
      rfl
    show WPc (Am.Call T) b6_16 ((L.keep [0, 1, 2, 7, 10, 11]).keep [0, 1, 2, 7, 10, 11]) M (Yes f6 .nrm) (Yes f6)
    rw [e]
    exact hT q k g M c1 c2 c3 (by simpa using b3)
  · exact ⟨fun t _ => rfl, fun h => by simp at h, fun h => by simp at h, fun h => by simp at h, fun _ => rfl, fun _ => rfl, f, kf, 0, fun h => by simp at h, fun h => by simp at h, by simpa using h⟩
end Go.Proofs.P16
