/- An abstract machine for the part of Go that this program uses: the numerals of small numbers, told ahead. -/
import Derived.Test.YtdddcofggemnkaaDoorAmIn
import Derived.Lib.ItoaNum
namespace Go.Am
set_option linter.all false
open Go

def itoaO : List AV → Mem → Option (AV × Mem)
  | [.int .i64 n], M => if 0 ≤ n ∧ n < 100 then some (.str ⟨(Lib.decDigits n.toNat).toArray⟩, M) else none
  | _, _ => none

theorem itoaO_sound {P : Program} {okc : Nat → Code → C → Prop} {f : Nat} {fn : IFn} (ho : fn.orc = itoaO)
    (hc : ∀ (i : Nat), i < 100 → ∀ w, Calls P f #[.int .i64 i] w fun e w' => e = .returned (.string ⟨(Lib.decDigits i).toArray⟩) ∧ w' = w) : OrcSound P okc f fn := by
  intro args M r M' h
  rw [ho] at h
  unfold itoaO at h
  split at h
  · rename_i n
    split at h
    · rename_i hn
      simp only [Option.some.injEq, Prod.mk.injEq] at h
      obtain ⟨rfl, rfl⟩ := h
      refine ⟨Keeps.refl _, fun w0 _ s w vs hm hl hv => ?_⟩
      obtain ⟨v, rfl⟩ : ∃ v, vs = [v] := by
        match vs, hl with
        | [v], _ => exact ⟨v, rfl⟩
      have hx := hv 0 _ v rfl rfl
      cases hx
      have := hc n.toNat (by omega) w
      rw [show ((n.toNat : Nat) : Int) = n by omega] at this
      refine this.mono ?_
      rintro e' w' ⟨rfl, rfl⟩
      exact ⟨_, s, rfl, .refl s, .str _, hm⟩
    · cases h
  · cases h
end Go.Am
