/- An abstract machine for the part of Go that this program uses: the runs of the plain operations. -/
import Derived.Test.YtdddcofggemnkaaAmChk
import Derived.WalkKit
namespace Go.Am
set_option linter.all false
open Go Go.RowKit

/-- An operation runs, and what it leaves is as it is told. -/
def OpOk (P : Program) (w0 : Base) (s : Sim) (x : Sem Next) (w : World) (r : AV) (M' : Mem) : Prop :=
  ∃ s' w', s.le s' ∧ MR w0 s' M' w' ∧ ((∃ v, x.run P w = .ok (.value v) w' ∧ VR s' r v) ∨ (x.run P w = .ok .skip w' ∧ r = .tuple []))

section
variable {P : Program} {w0 : Base} {w : World} {s : Sim} {M : Mem}

theorem OpOk.of_value {x : Sem Next} {v : Value} {r : AV} (hm : MR w0 s M w) (h : x.run P w = .ok (.value v) w) (hv : VR s r v) : OpOk P w0 s x w r M :=
  ⟨s, w, .refl s, hm, .inl ⟨v, h, hv⟩⟩

theorem VR.bool_inv {b : Bool} {v : Value} (h : VR s (.bool b) v) : v = .bool b := by cases h; rfl
theorem VR.int_inv {k : IntKind} {n : Int} {v : Value} (h : VR s (.int k n) v) : v = .int k n := by cases h; rfl
theorem VR.str_inv {b : ByteArray} {v : Value} (h : VR s (.str b) v) : v = .string b := by cases h; rfl

def okBin (op : BinOp) (o : Op) (x y : Arg) : Bool :=
  match o with
  | .binOp op' _ a b _ => decide (op = op') && okArg a x && okArg b y
  | _ => false

theorem aInt_run {op : BinOp} {k : IntKind} {x y : Int} {v : AV} (h : aInt op k x y = some v) (t : TypeId) : ∃ u, (binOp op t (.int k x) (.int k y)).run P w = .ok u w ∧ VR s v u := by
  cases op <;> simp only [aInt, aBits, aCmp] at h
  all_goals first | (cases h; done) | skip
  all_goals try split at h
  all_goals first
    | (cases h; done)
    | (simp only [Option.some.injEq] at h; subst h
       first
         | exact ⟨.int _ _, by simp_all [binOp, Op.intArith, Op.intDiv, Op.intBits, Op.intCmp], .int _ _⟩
         | exact ⟨.bool _, by simp_all [binOp, Op.intArith, Op.intDiv, Op.intBits, Op.intCmp], .bool _⟩)

theorem aStr_run {op : BinOp} {x y : ByteArray} {v : AV} (h : aStr op x y = some v) (t : TypeId) : ∃ u, (binOp op t (.string x) (.string y)).run P w = .ok u w ∧ VR s v u := by
  cases op <;> simp only [aStr] at h
  all_goals first | (cases h; done) | skip
  all_goals try split at h
  all_goals first
    | (cases h; done)
    | (simp only [Option.some.injEq] at h; subst h
       first
         | exact ⟨.bool _, by simp [binOp, Op.stringOp], .bool _⟩
         | (rename_i hle; exact ⟨.string _, by simp [binOp, Op.stringOp]; omega, .str _⟩))

theorem eqGuard_run {op : BinOp} {t : TypeId} {x y : Operand} {u v : Value} (h : (∃ k n, u = .int k n) ∨ (∃ b, u = .string b)) : (eqGuard op t x y u v).run P w = .ok () w := by
  rcases h with ⟨k, n, rfl⟩ | ⟨b, rfl⟩ <;> cases op <;> rfl

theorem aShift_run {op : BinOp} {k k' : IntKind} {x y : Int} {v : AV} (h : aShift op k x y = some v) (t : TypeId) : ∃ u, (binOp op t (.int k x) (.int k' y)).run P w = .ok u w ∧ VR s v u := by
  unfold aShift at h
  split at h
  · cases h
  · rename_i hy
    cases op <;> simp only at h
    all_goals first
      | (cases h; done)
      | (simp only [Option.some.injEq] at h; subst h
         exact ⟨.int _ _, by simp [binOp, Op.shift, hy], .int _ _⟩)

theorem aBin_run {op : BinOp} {x y v : AV} {a b : Value} (h : aBin op x y = some v) (hx : VR s x a) (hy : VR s y b) (t : TypeId) :
    (∃ u, (binOp op t a b).run P w = .ok u w ∧ VR s v u) ∧ ((∃ k n, a = .int k n) ∨ (∃ c, a = .string c)) := by
  unfold aBin at h
  split at h
  · rename_i k n k' n'
    rw [hx.int_inv, hy.int_inv]
    refine ⟨?_, .inl ⟨_, _, rfl⟩⟩
    split at h
    · exact aShift_run h t
    · exact aShift_run h t
    · split at h
      · rename_i e
        subst e
        exact aInt_run h t
      · cases h
  · rename_i c d
    rw [hx.str_inv, hy.str_inv]
    exact ⟨aStr_run h t, .inr ⟨_, rfl⟩⟩
  · cases h

theorem aUn_run {op : UnOp} {x v : AV} {a : Value} (h : aUn op x = some v) (hx : VR s x a) : ∃ u, (Op.unary op a).run P w = .ok u w ∧ VR s v u := by
  unfold aUn at h
  split at h
  · rw [hx.int_inv]
    split at h
    · simp only [Option.some.injEq] at h; subst h
      exact ⟨.int _ _, by simp [Op.unary, Op.intArith], .int _ _⟩
    · cases h
  · rw [hx.bool_inv]
    split at h
    · simp only [Option.some.injEq] at h; subst h
      exact ⟨.bool _, by simp [Op.unary], .bool _⟩
    · cases h
  · cases h

end
end Go.Am
