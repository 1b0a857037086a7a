/- What wakes() of the pairs' laws says, reckoned. -/
import Derived.Test.YtdddcofggemnkaaP17V4
namespace Go.Proofs.P17
set_option linter.all false
open Go Go.Am

def ins {α : Type} (le : α → α → Bool) (x : α) : List α → List α
  | [] => [x]
  | y :: ys => match le x y with
    | true => x :: y :: ys
    | false => y :: ins le x ys
def isort {α : Type} (le : α → α → Bool) : List α → List α
  | [] => []
  | x :: xs => ins le x (isort le xs)

theorem ins_perm {α : Type} {le : α → α → Bool} {x : α} : ∀ {l : List α}, (ins le x l).Perm (x :: l) := by
  intro l
  induction l with
  | nil => exact .refl _
  | cons y ys ih =>
    simp only [ins]
    split
    · exact .refl _
    · exact (ih.cons y).trans (List.Perm.swap x y ys)
theorem isort_perm {α : Type} {le : α → α → Bool} : ∀ {l : List α}, (isort le l).Perm l := by
  intro l
  induction l with
  | nil => exact .refl _
  | cons x xs ih => exact ins_perm.trans (ih.cons x)
theorem ins_sorted {α : Type} {le : α → α → Bool} (tr : ∀ a b c, le a b = true → le b c = true → le a c = true) (to : ∀ a b, (le a b || le b a) = true) {x : α} : ∀ {l : List α}, l.Pairwise (fun a b => le a b = true) → (ins le x l).Pairwise fun a b => le a b = true := by
  intro l
  induction l with
  | nil => intro _; simp [ins]
  | cons y ys ih =>
    intro h
    rw [List.pairwise_cons] at h
    simp only [ins]
    split
    · rename_i hxy
      exact List.pairwise_cons.2 ⟨fun b hb => by
        rcases List.mem_cons.1 hb with rfl | hb
        · exact hxy
        · exact tr _ _ _ hxy (h.1 b hb), List.pairwise_cons.2 h⟩
    · rename_i hxy
      refine List.pairwise_cons.2 ⟨fun b hb => ?_, ih h.2⟩
      rcases List.mem_cons.1 (ins_perm.mem_iff.1 hb) with rfl | hb
      · have := to b y
        rw [hxy] at this
        simpa using this
      · exact h.1 b hb
theorem isort_eq {α : Type} {le : α → α → Bool} (tr : ∀ a b c, le a b = true → le b c = true → le a c = true) (to : ∀ a b, (le a b || le b a) = true) (an : ∀ a b, le a b = true → le b a = true → a = b) {l : List α} : l.mergeSort le = isort le l := by
  have hs : (isort le l).Pairwise fun a b => le a b = true := by
    induction l with
    | nil => exact .nil
    | cons x xs ih => exact ins_sorted tr to ih
  exact List.Perm.eq_of_pairwise (le := fun a b => le a b = true) (fun a b _ _ => an a b) (List.pairwise_mergeSort tr to l) hs ((List.mergeSort_perm l le).trans isort_perm.symm)

def sortI' (zs : List Int) : List Int := isort (fun x y => decide (x ≤ y)) zs
theorem sortI_eq : sortI' = sortI := by
  funext zs
  exact (isort_eq (le := fun x y : Int => decide (x ≤ y)) (fun a b c h1 h2 => by simp only [decide_eq_true_eq] at *; omega) (fun a b => by simp only [Bool.or_eq_true, decide_eq_true_eq]; omega) (fun a b h1 h2 => by simp only [decide_eq_true_eq] at *; omega)).symm
def sortF' (zs : List Int) : List Int := flatP (isort leP (pairsOf zs))
theorem sortF_eq : sortF' = sortF := by
  funext zs
  unfold sortF' sortF
  rw [isort_eq leP_trans leP_total (fun a b => leP_anti)]

/-- The library's answers, as they may be reckoned. -/
def O17 (f : Nat) (args : List AV) (M : Mem) : Option (AV × Mem) :=
  match f with
  | 56 => rowO sortI' (fun _ _ _ _ => .tuple []) (fun _ => .tuple []) args M
  | 57 => compO args M
  | 63 => sortPO sortF' 64 args M
  | 72 => cloneI args M
  | _ => none

theorem O17_ok (f : Nat) (args : List AV) (M : Mem) : match T0 f with | some fn => O17 f args M = fn.orc args M | none => O17 f args M = none := by
  have e1 : (rowO sortI' (fun _ _ _ _ => .tuple []) (fun _ => .tuple []) : List AV → Mem → Option (AV × Mem)) = sortO := by rw [sortI_eq]; rfl
  have e2 : sortPO sortF' 64 = sortFO := by rw [sortF_eq]; rfl
  unfold T0
  split
  · rename_i fn h
    split at h <;> first
      | (cases h; first | rfl | exact congrFun (congrFun e1 args) M | exact congrFun (congrFun e2 args) M)
      | cases h
  · rename_i h
    unfold O17
    split at h <;> first | (cases h; done) | skip
    split <;> first | rfl | (exfalso; simp_all)

noncomputable section
def tr17 : Tr := .node 62 F62 (.node 36 F36 (.node 32 F32 (.node 28 F28 .leaf .leaf) (.node 35 F35 .leaf .leaf)) (.node 42 F42 (.node 37 F37 .leaf .leaf) (.node 61 F61 (.node 49 F49 .leaf .leaf) .leaf)))
  (.node 79 F79 (.node 71 F71 (.node 67 F67 .leaf (.node 70 F70 .leaf .leaf)) (.node 74 F74 (.node 73 F73 .leaf .leaf) .leaf)) (.node 86 F86 (.node 85 F85 .leaf .leaf) (.node 90 F90 .leaf (.node 91 F91 .leaf .leaf))))
theorem tr17_good : tr17.Good T0 :=
  ⟨⟨_, rfl, F62_ok⟩, ⟨⟨_, rfl, F36_ok⟩, ⟨⟨_, rfl, F32_ok⟩, ⟨⟨_, rfl, F28_ok⟩, trivial, trivial⟩, ⟨⟨_, rfl, F35_ok⟩, trivial, trivial⟩⟩, ⟨⟨_, rfl, F42_ok⟩, ⟨⟨_, rfl, F37_ok⟩, trivial, trivial⟩, ⟨⟨_, rfl, F61_ok⟩, ⟨⟨_, rfl, F49_ok⟩, trivial, trivial⟩, trivial⟩⟩⟩,
    ⟨⟨_, rfl, F79_ok⟩, ⟨⟨_, rfl, F71_ok⟩, ⟨⟨_, rfl, F67_ok⟩, trivial, ⟨⟨_, rfl, F70_ok⟩, trivial, trivial⟩⟩, ⟨⟨_, rfl, F74_ok⟩, ⟨⟨_, rfl, F73_ok⟩, trivial, trivial⟩, trivial⟩⟩, ⟨⟨_, rfl, F86_ok⟩, ⟨⟨_, rfl, F85_ok⟩, trivial, trivial⟩, ⟨⟨_, rfl, F90_ok⟩, trivial, ⟨⟨_, rfl, F91_ok⟩, trivial, trivial⟩⟩⟩⟩⟩
theorem wk : (callT O17 tr17 60 28 [] ⟨[], none⟩).map (fun r => (r.1, r.2.objs.length)) = some (.bool true, 0) := by kernel_rfl

theorem T0_yb : ∀ f fn, T0 f = some fn → f < yb := fun f fn h => by
  have h1 := hT0 f fn h
  unfold okFn at h1
  split at h1
  · split at h1
    · simp only [Bool.and_eq_true, decide_eq_true_eq] at h1; exact h1.1.1.1
    · cases h1
  · cases h1

theorem wk0 : ∃ b, callN T0 60 28 [] ⟨[], none⟩ = some (.bool true, ⟨[], b⟩) := by
  cases h : callT O17 tr17 60 28 [] ⟨[], none⟩ with
  | none => have := wk; rw [h] at this; cases this
  | some r =>
    obtain ⟨v, ⟨os, b⟩⟩ := r
    have h1 := wk
    rw [h] at h1
    simp only [Option.map_some, Option.some.injEq, Prod.mk.injEq] at h1
    obtain ⟨rfl, h2⟩ := h1
    have h3 : os = [] := List.eq_nil_of_length_eq_zero h2
    subst h3
    exact ⟨b, callT_le tr17_good O17_ok T0_yb 60 _ _ _ _ h⟩
end

/-- All answers told ahead are so. -/
theorem hO (h56 : OrcSound Try.prog (okc0 Try.prog) 56 { f56 with orc := sortO }) (h57 : OrcSound Try.prog (okc0 Try.prog) 57 { f57 with orc := compO }) : ∀ f fn, T f = some fn → OrcSound Try.prog (okc0 Try.prog) f fn := by
  have h0 := hO0 h56 h57 (sortFO_sound rfl) (cloneI_sound rfl)
  intro f fn h
  by_cases e : f = 28
  · subst e
    cases h
    obtain ⟨b, hb⟩ := wk0
    exact orc0_sound mixed hT0 h0 (by decide) rfl hb
  · refine h0 f fn ?_
    rw [← h]
    unfold T T0
    split <;> first | rfl | (exfalso; exact e rfl)

theorem call28 {m : Mem} {fr : Heap} (hs : Sep m fr) : Tells (Am.Call T 28 [] m) fun x m' => x = .bool true ∧ Sep m' fr :=
  Tells.orc (r := (.bool true, m)) rfl rfl ⟨rfl, hs⟩
end Go.Proofs.P17
