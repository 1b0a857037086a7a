/- An abstract machine for the part of Go that this program uses: what is met at looks. -/
import Derived.Test.YtdddcofggemnkaaAmEval
namespace Go.Am
set_option linter.all false
open Go

mutual
theorem AV.beq_self : ∀ v : AV, AV.beq v v = true
  | .bool _ | .int _ _ | .str _ | .nilptr | .map _ | .nilmap | .yield _ | .nilfunc | .niliface | .ref _ _ _ _ | .ptr _ _ _ => by simp [AV.beq]
  | .list _ _ xs => by simp [AV.beq, AV.beqs_self xs]
  | .cptr x => by simp [AV.beq, AV.beq_self x]
  | .func _ xs ys => by simp [AV.beq, AV.beqs_self xs, AV.beqs_self ys]
  | .iface _ x => by simp [AV.beq, AV.beq_self x]
  | .agg xs => by simp [AV.beq, AV.beqs_self xs]
  | .tuple xs => by simp [AV.beq, AV.beqs_self xs]
theorem AV.beqs_self : ∀ xs : List AV, AV.beqs xs xs = true
  | [] => rfl
  | x :: xs => by simp [AV.beqs, AV.beq_self x, AV.beqs_self xs]
end

theorem evOps_fst {call : Fun} {L : Env} {M : Mem} {op : IOp} (hl : op.looks = true) {v : AV} {m : Mem} (h : evOp call L M op = some (v, m)) : m = M := by
  cases op <;> simp only [IOp.looks] at hl <;> first | (cases hl; done) | skip
  all_goals (simp only [evOp] at h; repeat' split at h) <;> first | (cases h; done) | (cases h; rfl)

theorem stays_same {call : Fun} {op : IOp} {L : Env} {v : AV} {M : Mem} {ms : List Mem} (hms : ∀ m ∈ ms, m = M) {m : Mem} (h : evOp call L M op = some (v, m)) : ∀ (n lo : Nat), lo + n ≤ ms.length → stays call op L v ms lo n = true := by
  intro n
  induction n with
  | zero => intro lo _; rfl
  | succ n ih =>
    intro lo hlo
    have hg : ms[lo]? = some ms[lo] := List.getElem?_eq_getElem (by omega)
    have hM : ms[lo] = M := hms _ (List.getElem_mem _)
    simp only [stays, hg, hM, h, AV.beq_self, Bool.true_and]
    exact ih (lo + 1) (by omega)

/-- Do all ranges end within so many memories? -/
def fitsD (n : Nat) : List (IOper × Nat × Nat) → Bool
  | [] => true
  | (o, lo, k) :: os => (!o.op.looks || decide (lo + k ≤ n)) && fitsD n os

def effs : List (IOper × Nat × Nat) → Nat
  | [] => 0
  | (o, _) :: os => (if o.op.isEff then 1 else 0) + effs os
theorem Call_orc {T : Nat → Option IFn} {M : Mem} {f : Nat} {fn : IFn} (hf : T f = some fn) {args : List AV} {r : AV × Mem} (ho : fn.orc args M = some r) : Call T f args M = some r := by
  rw [call_fn hf]
  unfold runFn
  rw [ho]

end Go.Am
