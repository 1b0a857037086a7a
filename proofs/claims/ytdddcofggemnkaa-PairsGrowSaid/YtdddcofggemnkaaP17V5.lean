/- What wakes() of the pairs' laws says, reckoned. -/
import Derived.Test.YtdddcofggemnkaaP17V4
namespace Go.Proofs.P17
set_option linter.all false
open Go Go.Am

def ins {α : Type} (le : α → α → Bool) (x : α) : List α → List α
  | [] => [x]
  | y :: ys => match le x y with
    | true => x :: y :: ys
    | false => y :: ins le x ys
def isort {α : Type} (le : α → α → Bool) : List α → List α
  | [] => []
  | x :: xs => ins le x (isort le xs)

theorem ins_perm {α : Type} {le : α → α → Bool} {x : α} : ∀ {l : List α}, (ins le x l).Perm (x :: l) := by
  intro l
  induction l with
  | nil => exact .refl _
  | cons y ys ih =>
    simp only [ins]
    split
    · exact .refl _
    · exact (ih.cons y).trans (List.Perm.swap x y ys)
theorem isort_perm {α : Type} {le : α → α → Bool} : ∀ {l : List α}, (isort le l).Perm l := by
  intro l
  induction l with
  | nil => exact .refl _
  | cons x xs ih => exact ins_perm.trans (ih.cons x)
theorem ins_sorted {α : Type} {le : α → α → Bool} (tr : ∀ a b c, le a b = true → le b c = true → le a c = true) (to : ∀ a b, (le a b || le b a) = true) {x : α} : ∀ {l : List α}, l.Pairwise (fun a b => le a b = true) → (ins le x l).Pairwise fun a b => le a b = true := by
  intro l
  induction l with
  | nil => intro _; simp [ins]
  | cons y ys ih =>
    intro h
    rw [List.pairwise_cons] at h
    simp only [ins]
    split
    · rename_i hxy
      exact List.pairwise_cons.2 ⟨fun b hb => by
        rcases List.mem_cons.1 hb with rfl | hb
        · exact hxy
        · exact tr _ _ _ hxy (h.1 b hb), List.pairwise_cons.2 h⟩
    · rename_i hxy
      refine List.pairwise_cons.2 ⟨fun b hb => ?_, ih h.2⟩
      rcases List.mem_cons.1 (ins_perm.mem_iff.1 hb) with rfl | hb
      · have := to b y
        rw [hxy] at this
        simpa using this
      · exact h.1 b hb
theorem isort_eq {α : Type} {le : α → α → Bool} (tr : ∀ a b c, le a b = true → le b c = true → le a c = true) (to : ∀ a b, (le a b || le b a) = true) (an : ∀ a b, le a b = true → le b a = true → a = b) {l : List α} : l.mergeSort le = isort le l := by
  have hs : (isort le l).Pairwise fun a b => le a b = true := by
    induction l with
    | nil => exact .nil
    | cons x xs ih => exact ins_sorted tr to ih
  exact List.Perm.eq_of_pairwise (le := fun a b => le a b = true) (fun a b _ _ => an a b) (List.pairwise_mergeSort tr to l) hs ((List.mergeSort_perm l le).trans isort_perm.symm)

def sortI' (zs : List Int) : List Int := isort (fun x y => decide (x ≤ y)) zs
theorem sortI_eq : sortI' = sortI := by
  funext zs
  exact (isort_eq (le := fun x y : Int => decide (x ≤ y)) (fun a b c h1 h2 => by simp only [decide_eq_true_eq] at *; omega) (fun a b => by simp only [Bool.or_eq_true, decide_eq_true_eq]; omega) (fun a b h1 h2 => by simp only [decide_eq_true_eq] at *; omega)).symm
def sortF' (zs : List Int) : List Int := flatP (isort leP (pairsOf zs))
theorem sortF_eq : sortF' = sortF := by
  funext zs
  unfold sortF' sortF
  rw [isort_eq leP_trans leP_total (fun a b => leP_anti)]

/-- The library's answers, as they may be reckoned. -/
def O17 (f : Nat) (args : List AV) (M : Mem) : Option (AV × Mem) :=
  match f with
  | 56 => rowO sortI' (fun _ _ _ _ => .tuple []) (fun _ => .tuple []) args M
  | 57 => compO args M
  | 63 => sortPO sortF' 64 args M
  | 69 => cloneP args M
  | 72 => cloneI args M
  | 89 => growP args M
  | _ => none

theorem O17_ok (f : Nat) (args : List AV) (M : Mem) : match T0 f with | some fn => O17 f args M = fn.orc args M | none => O17 f args M = none := by
  have e1 : (rowO sortI' (fun _ _ _ _ => .tuple []) (fun _ => .tuple []) : List AV → Mem → Option (AV × Mem)) = sortO := by rw [sortI_eq]; rfl
  have e2 : sortPO sortF' 64 = sortFO := by rw [sortF_eq]; rfl
  unfold T0
  split
  · rename_i fn h
    split at h <;> first
      | (cases h; first | rfl | exact congrFun (congrFun e1 args) M | exact congrFun (congrFun e2 args) M)
      | cases h
  · rename_i h
    unfold O17
    split at h <;> first | (cases h; done) | skip
    split <;> first | rfl | (exfalso; simp_all)

noncomputable section
def tr17 : Tr := .node 62 F62 (.node 36 F36 (.node 32 F32 (.node 28 F28 .leaf .leaf) (.node 35 F35 .leaf .leaf)) (.node 42 F42 (.node 37 F37 .leaf .leaf) (.node 61 F61 (.node 49 F49 .leaf .leaf) .leaf)))
  (.node 79 F79 (.node 71 F71 (.node 67 F67 .leaf (.node 70 F70 .leaf .leaf)) (.node 74 F74 (.node 73 F73 .leaf .leaf) .leaf)) (.node 86 F86 (.node 85 F85 .leaf .leaf) (.node 90 F90 .leaf (.node 91 F91 .leaf .leaf))))
theorem tr17_good : tr17.Good T0 :=
  ⟨⟨_, rfl, F62_ok⟩, ⟨⟨_, rfl, F36_ok⟩, ⟨⟨_, rfl, F32_ok⟩, ⟨⟨_, rfl, F28_ok⟩, trivial, trivial⟩, ⟨⟨_, rfl, F35_ok⟩, trivial, trivial⟩⟩, ⟨⟨_, rfl, F42_ok⟩, ⟨⟨_, rfl, F37_ok⟩, trivial, trivial⟩, ⟨⟨_, rfl, F61_ok⟩, ⟨⟨_, rfl, F49_ok⟩, trivial, trivial⟩, trivial⟩⟩⟩,
    ⟨⟨_, rfl, F79_ok⟩, ⟨⟨_, rfl, F71_ok⟩, ⟨⟨_, rfl, F67_ok⟩, trivial, ⟨⟨_, rfl, F70_ok⟩, trivial, trivial⟩⟩, ⟨⟨_, rfl, F74_ok⟩, ⟨⟨_, rfl, F73_ok⟩, trivial, trivial⟩, trivial⟩⟩, ⟨⟨_, rfl, F86_ok⟩, ⟨⟨_, rfl, F85_ok⟩, trivial, trivial⟩, ⟨⟨_, rfl, F90_ok⟩, trivial, ⟨⟨_, rfl, F91_ok⟩, trivial, trivial⟩⟩⟩⟩⟩
theorem wk : (callT O17 tr17 60 28 [] ⟨[], none⟩).map (fun r => (r.1, r.2.objs.length)) = some (.bool true, 0) := by kernel_rfl

theorem T0_yb : ∀ f fn, T0 f = some fn → f < yb := fun f fn h => by
  have h1 := hT0 f fn h
  unfold okFn at h1
  split at h1
  · split at h1
    · simp only [Bool.and_eq_true, decide_eq_true_eq] at h1; exact h1.1.1.1
    · cases h1
  · cases h1

theorem wk0 : ∃ b, callN T0 60 28 [] ⟨[], none⟩ = some (.bool true, ⟨[], b⟩) := by
  cases h : callT O17 tr17 60 28 [] ⟨[], none⟩ with
  | none => have := wk; rw [h] at this; cases this
  | some r =>
    obtain ⟨v, ⟨os, b⟩⟩ := r
    have h1 := wk
    rw [h] at h1
    simp only [Option.map_some, Option.some.injEq, Prod.mk.injEq] at h1
    obtain ⟨rfl, h2⟩ := h1
    have h3 : os = [] := List.eq_nil_of_length_eq_zero h2
    subst h3
    exact ⟨b, callT_le tr17_good O17_ok T0_yb 60 _ _ _ _ h⟩
end

/-- All answers told ahead are so. -/
theorem hO (h56 : OrcSound Try.prog (okc0 Try.prog) 56 { f56 with orc := sortO }) (h57 : OrcSound Try.prog (okc0 Try.prog) 57 { f57 with orc := compO }) : ∀ f fn, T f = some fn → OrcSound Try.prog (okc0 Try.prog) f fn := by
  have h0 := hO0 h56 h57 (sortFO_sound rfl) (cloneP_sound rfl) (cloneI_sound rfl) (growP_sound rfl)
  intro f fn h
  by_cases e : f = 28
  · subst e
    cases h
    obtain ⟨b, hb⟩ := wk0
    exact orc0_sound mixed hT0 h0 (by decide) rfl hb
  · refine h0 f fn ?_
    rw [← h]
    unfold T T0
    split <;> first | rfl | (exfalso; exact e rfl)

theorem call28 {m : Mem} {fr : Heap} (hs : Sep m fr) : Tells (Am.Call T 28 [] m) fun x m' => x = .bool true ∧ Sep m' fr :=
  Tells.orc (r := (.bool true, m)) rfl rfl ⟨rfl, hs⟩
end Go.Proofs.P17
namespace Go.Proofs.P17
set_option linter.all false
open Go Go.Am
attribute [local irreducible] loadK storeK newK boxK tipK makeMapK buildTK buildK buildSliceK nilK binK unK condK convK eqvK pickK gK gDK vK extractK fieldK lookupK mapUpdateK appendK min2K max2K retK makeSliceK freezeK bytesK loopV blkK stayK sameK rangeK callK aFieldAddr aIndexAddr aIndexAddrA aLen aIndex aSlice
theorem RowR.psl {x : AV} {H l : Heap} {ps : List (Int × Int)} (h : RowR x.untag H 2 (ps.map pV)) : PSl x.untag (H ++ l) ps := by
  rcases h with ⟨g, k, h1, h2, rfl⟩ | ⟨id, ver, cs, _, h1, rfl, h3, h4, _⟩
  · have : ps = [] := by simpa using h2
    subst this
    rw [h1]
    cases x <;> simp only [AV.untag] at h1 <;> cases h1
    exact .inl ⟨_, rfl, .inr rfl⟩
  · rw [List.length_map] at h1 h3 h4
    exact .inr ⟨id, ver, cs, h1, .z, prow_of h3 h4⟩
theorem IsPs.psl {v : AV} {l : Heap} {ps : List (Int × Int)} (h : IsPs v ps) : PSl v l ps := .inl h

/-- Are two a pair of some? -/
def hasP (ps : List (Int × Int)) (a b : Int) : Bool := ps.any fun p => (decide (p.1 = a) && decide (p.2 = b)) || (decide (p.1 = b) && decide (p.2 = a))
def hasR (ps : List (Int × Int)) (a b : Int) : Bool := !(decide (a < 0) || decide (b < 0) || decide (a = b)) && hasP ps a b

theorem call27 {m : Mem} {fr : Heap} {x : AV} {zs : List Int} (hx : IsZs x zs) (hl : zs.length < 4294967296) (hs : Sep m fr) : Tells (Am.Call T 27 [x] m) fun r m' => r = .bool (zs.any fun z => decide (40 < z)) ∧ Sep m' fr := by
  obtain ⟨k, rfl, hk⟩ := hx
  have hlz : (zs.map vZ).length = zs.length := List.length_map _
  refine Tells.fn (zs.length + 2) rfl F27_ok rfl ?_
  show Tells (S27 (Am.Call T) (zs.length + 2) m (.list .shared k (zs.map vZ))) _
  have h : Sep ⟨m.objs, none⟩ fr := hs.objs rfl
  unfold S27 G27
  refine Tells.loop (fun j vs m => ∃ i : Nat, i + j = zs.length ∧ ((zs.take i).any fun z => decide (40 < z)) = false ∧ vs = [.list .shared k (zs.map vZ), vI i] ∧ Sep m fr) ?_ (i := zs.length) (by omega) ?_
  · rintro j vs m L2 ⟨i, j1, j2, rfl, h⟩ hL
    unfold S27_2 G27_2
    by_cases hi : i < zs.length
    · obtain ⟨z, hz⟩ : ∃ z, zs[i]? = some z := ⟨_, List.getElem?_eq_getElem hi⟩
      have hk1 : k = 1 := hk.resolve_right (by intro e; rw [e] at hi; simp at hi)
      subst hk1
      have hgz : (zs.map vZ)[i]? = some (vZ z) := by rw [List.getElem?_map, hz]; rfl
      have htk : zs.take (i + 1) = zs.take i ++ [z] := by rw [List.take_add_one, hz]; rfl
      by_cases h40 : 40 < z
      · refine .lenL ?_
        refine .lss ?_
        refine .condT (by first | assumption | omega) ?_
        refine .indexL (j := i) (by rfl) hgz ?_
        refine .loadC1 (by rfl) ?_
        refine .gtr ?_
        refine .condT (by first | assumption | omega) ?_
        refine .blkR ?_
        refine .ret1 (by rfl) ?_
        intro m hobj
        refine ⟨?_, h.objs hobj⟩
        have : (zs.any fun z => decide (40 < z)) = true := List.any_eq_true.2 ⟨z, List.mem_of_getElem? hz, by simpa using h40⟩
        rw [this]
      · refine .lenL ?_
        refine .lss ?_
        refine .condT (by first | assumption | omega) ?_
        refine .indexL (j := i) (by rfl) hgz ?_
        refine .loadC1 (by rfl) ?_
        refine .gtr ?_
        refine .condF (by first | assumption | omega) ?_
        refine .add (by rfl) (by omega) ?_
        exact hL (j - 1) _ _ (by omega) ⟨i + 1, by omega, by rw [htk, List.any_append, j2]; simp [h40], rfl, h⟩
    · have hi : i = zs.length := by omega
      subst hi
      rw [List.take_length] at j2
      refine .lenL ?_
      refine .lss ?_
      refine .condF (by first | assumption | omega) ?_
      refine .blk ?_
      refine .ret1 (by rfl) ?_
      intro m hobj
      exact ⟨by rw [j2], h.objs hobj⟩
  · exact ⟨0, by omega, by simp, rfl, h⟩

set_option maxHeartbeats 8000000 in
theorem call31 {m : Mem} {l : Heap} {x : AV} {ps : List (Int × Int)} {a b : Int} (hx : PSl x l ps) (hl : ps.length < 4294967296) (hs : Sep m l) : Tells (Am.Call T 31 [x, .int .i64 a, .int .i64 b] m) fun r m' => r = .bool (hasR ps a b) ∧ Sep m' l := by
  refine Tells.fn (ps.length + 2) rfl F31_ok rfl ?_
  show Tells (S31 (Am.Call T) (ps.length + 2) m x (.int .i64 a) (.int .i64 b)) _
  have h : Sep ⟨m.objs, none⟩ l := hs.objs rfl
  unfold S31 G31
  by_cases ha : a < 0
  · refine .lss ?_
    refine .gTF (by rfl) (by first | assumption | omega) ?_
    refine .gTF (by rfl) (by first | assumption | omega) ?_
    refine .pickT (by first | assumption | omega) ?_
    refine .gtf ?_
    refine .gtf ?_
    refine .gtf ?_
    refine .picktt ?_
    refine .condtt ?_
    refine .ret1 (by rfl) ?_
    intro m hobj
    exact ⟨by simp [hasR, ha], h.objs hobj⟩
  by_cases hb : b < 0
  · refine .lss ?_
    refine .gF (by rfl) (by first | assumption | omega) ?_
    refine .gF (by rfl) (by first | assumption | omega) ?_
    refine .lss ?_
    refine .pickF (by first | assumption | omega) ?_
    refine .gTF (by rfl) (by first | assumption | omega) ?_
    refine .gTF (by rfl) (by first | assumption | omega) ?_
    refine .gTF (by rfl) (by first | assumption | omega) ?_
    refine .pickT (by first | assumption | omega) ?_
    refine .condtt ?_
    refine .ret1 (by rfl) ?_
    intro m hobj
    exact ⟨by simp [hasR, hb], h.objs hobj⟩
  by_cases hab : a = b
  · refine .lss ?_
    refine .gF (by rfl) (by first | assumption | omega) ?_
    refine .gF (by rfl) (by first | assumption | omega) ?_
    refine .lss ?_
    refine .pickF (by first | assumption | omega) ?_
    refine .gF (by rfl) (by first | assumption | omega) ?_
    refine .gF (by rfl) (by first | assumption | omega) ?_
    refine .gF (by rfl) (by first | assumption | omega) ?_
    refine .eql ?_
    refine .pickF (by first | assumption | omega) ?_
    refine .condT (by first | assumption | omega) ?_
    refine .ret1 (by rfl) ?_
    intro m hobj
    exact ⟨by simp [hasR, hab], h.objs hobj⟩
  have hR : hasR ps a b = hasP ps a b := by simp [hasR, ha, hb, hab]
  rw [hR]
  refine .lss ?_
  refine .gF (by rfl) (by first | assumption | omega) ?_
  refine .gF (by rfl) (by first | assumption | omega) ?_
  refine .lss ?_
  refine .pickF (by first | assumption | omega) ?_
  refine .gF (by rfl) (by first | assumption | omega) ?_
  refine .gF (by rfl) (by first | assumption | omega) ?_
  refine .gF (by rfl) (by first | assumption | omega) ?_
  refine .eql ?_
  refine .pickF (by first | assumption | omega) ?_
  refine .condF (by first | assumption | omega) ?_
  unfold S31_4 G31_4
  refine Tells.loop (fun j vs m => ∃ i : Nat, i + j = ps.length ∧ hasP (ps.take i) a b = false ∧ vs = [x, .int .i64 a, .int .i64 b, vI i] ∧ Sep m l) ?_ (i := ps.length) (by omega) ?_
  · rintro j vs m L2 ⟨i, j1, j2, rfl, h⟩ hL
    unfold S31_2 G31_2
    by_cases hi : i < ps.length
    · obtain ⟨p, hp⟩ : ∃ p, ps[i]? = some p := ⟨_, List.getElem?_eq_getElem hi⟩
      have htk : ps.take (i + 1) = ps.take i ++ [p] := by rw [List.take_add_one, hp]; rfl
      have yes : ((decide (p.1 = a) && decide (p.2 = b)) || (decide (p.1 = b) && decide (p.2 = a))) = true → hasP ps a b = true := fun e => List.any_eq_true.2 ⟨p, List.mem_of_getElem? hp, e⟩
      have no : ((decide (p.1 = a) && decide (p.2 = b)) || (decide (p.1 = b) && decide (p.2 = a))) = false → hasP (ps.take (i + 1)) a b = false := fun e => by
        unfold hasP at j2 ⊢
        rw [htk, List.any_append, j2, List.any_cons, e]; rfl
      by_cases c1 : p.1 = a
      · by_cases c2 : p.2 = b
        · refine .psLen hx ?_
          refine .lss ?_
          refine .condT (by first | assumption | omega) ?_
          refine .psIdx hx (j := i) (by rfl) hp ?_; intro ad had
          refine .pa0 ‹_› ?_; intro bd hbd
          refine .pcLoad h ‹_› ?_
          refine .eql ?_
          refine .gT (by rfl) (by first | assumption | omega) ?_
          refine .gT (by rfl) (by first | assumption | omega) ?_
          refine .gT (by rfl) (by first | assumption | omega) ?_
          refine .psIdx hx (j := i) (by rfl) hp ?_; intro ad had
          refine .gT (by rfl) (by first | assumption | omega) ?_
          refine .pa1 ‹_› ?_; intro bd hbd
          refine .gT (by rfl) (by first | assumption | omega) ?_
          refine .pcLoad h ‹_› ?_
          refine .gT (by rfl) (by first | assumption | omega) ?_
          refine .gT (by rfl) (by first | assumption | omega) ?_
          refine .eql ?_
          refine .pickT (by first | assumption | omega) ?_
          refine .gTF (by rfl) (by first | assumption | omega) ?_
          refine .gTF (by rfl) (by first | assumption | omega) ?_
          refine .gTF (by rfl) (by first | assumption | omega) ?_
          refine .gTF (by rfl) (by first | assumption | omega) ?_
          refine .gTF (by rfl) (by first | assumption | omega) ?_
          refine .gTF (by rfl) (by first | assumption | omega) ?_
          refine .gTF (by rfl) (by first | assumption | omega) ?_
          refine .gTF (by rfl) (by first | assumption | omega) ?_
          refine .gN ?_
          refine .gN ?_
          refine .gN ?_
          refine .gN ?_
          refine .gN ?_
          refine .gN ?_
          refine .gN ?_
          refine .gTF (by rfl) (by first | assumption | omega) ?_
          refine .pickT (by first | assumption | omega) ?_
          refine .condtt ?_
          refine .blkR ?_
          refine .ret1 (by rfl) ?_
          intro m hobj
          exact ⟨by rw [yes (by rw [decide_eq_true c1, decide_eq_true c2]; rfl)], h.objs hobj⟩
        · have c3 : ¬ p.1 = b := fun c3 => hab (c1.symm.trans c3)
          refine .psLen hx ?_
          refine .lss ?_
          refine .condT (by first | assumption | omega) ?_
          refine .psIdx hx (j := i) (by rfl) hp ?_; intro ad had
          refine .pa0 ‹_› ?_; intro bd hbd
          refine .pcLoad h ‹_› ?_
          refine .eql ?_
          refine .gT (by rfl) (by first | assumption | omega) ?_
          refine .gT (by rfl) (by first | assumption | omega) ?_
          refine .gT (by rfl) (by first | assumption | omega) ?_
          refine .psIdx hx (j := i) (by rfl) hp ?_; intro ad had
          refine .gT (by rfl) (by first | assumption | omega) ?_
          refine .pa1 ‹_› ?_; intro bd hbd
          refine .gT (by rfl) (by first | assumption | omega) ?_
          refine .pcLoad h ‹_› ?_
          refine .gT (by rfl) (by first | assumption | omega) ?_
          refine .gT (by rfl) (by first | assumption | omega) ?_
          refine .eql ?_
          refine .pickT (by first | assumption | omega) ?_
          refine .gF (by rfl) (by first | assumption | omega) ?_
          refine .gF (by rfl) (by first | assumption | omega) ?_
          refine .gF (by rfl) (by first | assumption | omega) ?_
          refine .psIdx hx (j := i) (by rfl) hp ?_; intro ad had
          refine .gF (by rfl) (by first | assumption | omega) ?_
          refine .pa0 ‹_› ?_; intro bd hbd
          refine .gF (by rfl) (by first | assumption | omega) ?_
          refine .pcLoad h ‹_› ?_
          refine .gF (by rfl) (by first | assumption | omega) ?_
          refine .gF (by rfl) (by first | assumption | omega) ?_
          refine .eql ?_
          refine .gF (by rfl) (by first | assumption | omega) ?_
          refine .gFT (by rfl) (by first | assumption | omega) ?_
          refine .gFT (by rfl) (by first | assumption | omega) ?_
          refine .gFT (by rfl) (by first | assumption | omega) ?_
          refine .gFT (by rfl) (by first | assumption | omega) ?_
          refine .gFT (by rfl) (by first | assumption | omega) ?_
          refine .gFT (by rfl) (by first | assumption | omega) ?_
          refine .gFT (by rfl) (by first | assumption | omega) ?_
          refine .gF (by rfl) (by first | assumption | omega) ?_
          refine .pickF (by first | assumption | omega) ?_
          refine .pickF (by first | assumption | omega) ?_
          refine .condff ?_
          refine .add (by rfl) (by omega) ?_
          exact hL (j - 1) _ _ (by omega) ⟨i + 1, by omega, no (by rw [decide_eq_false c2, decide_eq_false c3, Bool.and_false, Bool.false_and]; rfl), rfl, h⟩
      · by_cases c3 : p.1 = b
        · by_cases c4 : p.2 = a
          · refine .psLen hx ?_
            refine .lss ?_
            refine .condT (by first | assumption | omega) ?_
            refine .psIdx hx (j := i) (by rfl) hp ?_; intro ad had
            refine .pa0 ‹_› ?_; intro bd hbd
            refine .pcLoad h ‹_› ?_
            refine .eql ?_
            refine .gFT (by rfl) (by first | assumption | omega) ?_
            refine .gFT (by rfl) (by first | assumption | omega) ?_
            refine .gFT (by rfl) (by first | assumption | omega) ?_
            refine .gFT (by rfl) (by first | assumption | omega) ?_
            refine .gFT (by rfl) (by first | assumption | omega) ?_
            refine .gFT (by rfl) (by first | assumption | omega) ?_
            refine .gFT (by rfl) (by first | assumption | omega) ?_
            refine .pickF (by first | assumption | omega) ?_
            refine .gff ?_
            refine .gff ?_
            refine .gff ?_
            refine .psIdx hx (j := i) (by rfl) hp ?_; intro ad had
            refine .gff ?_
            refine .pa0 ‹_› ?_; intro bd hbd
            refine .gff ?_
            refine .pcLoad h ‹_› ?_
            refine .gff ?_
            refine .gff ?_
            refine .eql ?_
            refine .gff ?_
            refine .gT (by rfl) (by first | assumption | omega) ?_
            refine .gT (by rfl) (by first | assumption | omega) ?_
            refine .gT (by rfl) (by first | assumption | omega) ?_
            refine .psIdx hx (j := i) (by rfl) hp ?_; intro ad had
            refine .gT (by rfl) (by first | assumption | omega) ?_
            refine .pa1 ‹_› ?_; intro bd hbd
            refine .gT (by rfl) (by first | assumption | omega) ?_
            refine .pcLoad h ‹_› ?_
            refine .gT (by rfl) (by first | assumption | omega) ?_
            refine .gT (by rfl) (by first | assumption | omega) ?_
            refine .eql ?_
            refine .gff ?_
            refine .pickT (by first | assumption | omega) ?_
            refine .pickff ?_
            refine .condT (by first | assumption | omega) ?_
            refine .blkR ?_
            refine .ret1 (by rfl) ?_
            intro m hobj
            exact ⟨by rw [yes (by rw [decide_eq_true c3, decide_eq_true c4, Bool.and_self, Bool.or_true])], h.objs hobj⟩
          · refine .psLen hx ?_
            refine .lss ?_
            refine .condT (by first | assumption | omega) ?_
            refine .psIdx hx (j := i) (by rfl) hp ?_; intro ad had
            refine .pa0 ‹_› ?_; intro bd hbd
            refine .pcLoad h ‹_› ?_
            refine .eql ?_
            refine .gFT (by rfl) (by first | assumption | omega) ?_
            refine .gFT (by rfl) (by first | assumption | omega) ?_
            refine .gFT (by rfl) (by first | assumption | omega) ?_
            refine .gFT (by rfl) (by first | assumption | omega) ?_
            refine .gFT (by rfl) (by first | assumption | omega) ?_
            refine .gFT (by rfl) (by first | assumption | omega) ?_
            refine .gFT (by rfl) (by first | assumption | omega) ?_
            refine .pickF (by first | assumption | omega) ?_
            refine .gff ?_
            refine .gff ?_
            refine .gff ?_
            refine .psIdx hx (j := i) (by rfl) hp ?_; intro ad had
            refine .gff ?_
            refine .pa0 ‹_› ?_; intro bd hbd
            refine .gff ?_
            refine .pcLoad h ‹_› ?_
            refine .gff ?_
            refine .gff ?_
            refine .eql ?_
            refine .gff ?_
            refine .gT (by rfl) (by first | assumption | omega) ?_
            refine .gT (by rfl) (by first | assumption | omega) ?_
            refine .gT (by rfl) (by first | assumption | omega) ?_
            refine .psIdx hx (j := i) (by rfl) hp ?_; intro ad had
            refine .gT (by rfl) (by first | assumption | omega) ?_
            refine .pa1 ‹_› ?_; intro bd hbd
            refine .gT (by rfl) (by first | assumption | omega) ?_
            refine .pcLoad h ‹_› ?_
            refine .gT (by rfl) (by first | assumption | omega) ?_
            refine .gT (by rfl) (by first | assumption | omega) ?_
            refine .eql ?_
            refine .gff ?_
            refine .pickT (by first | assumption | omega) ?_
            refine .pickff ?_
            refine .condF (by first | assumption | omega) ?_
            refine .add (by rfl) (by omega) ?_
            exact hL (j - 1) _ _ (by omega) ⟨i + 1, by omega, no (by rw [decide_eq_false c1, decide_eq_false c4, Bool.and_false, Bool.false_and]; rfl), rfl, h⟩
        · refine .psLen hx ?_
          refine .lss ?_
          refine .condT (by first | assumption | omega) ?_
          refine .psIdx hx (j := i) (by rfl) hp ?_; intro ad had
          refine .pa0 ‹_› ?_; intro bd hbd
          refine .pcLoad h ‹_› ?_
          refine .eql ?_
          refine .gFT (by rfl) (by first | assumption | omega) ?_
          refine .gFT (by rfl) (by first | assumption | omega) ?_
          refine .gFT (by rfl) (by first | assumption | omega) ?_
          refine .gFT (by rfl) (by first | assumption | omega) ?_
          refine .gFT (by rfl) (by first | assumption | omega) ?_
          refine .gFT (by rfl) (by first | assumption | omega) ?_
          refine .gFT (by rfl) (by first | assumption | omega) ?_
          refine .pickF (by first | assumption | omega) ?_
          refine .gff ?_
          refine .gff ?_
          refine .gff ?_
          refine .psIdx hx (j := i) (by rfl) hp ?_; intro ad had
          refine .gff ?_
          refine .pa0 ‹_› ?_; intro bd hbd
          refine .gff ?_
          refine .pcLoad h ‹_› ?_
          refine .gff ?_
          refine .gff ?_
          refine .eql ?_
          refine .gff ?_
          refine .gFT (by rfl) (by first | assumption | omega) ?_
          refine .gFT (by rfl) (by first | assumption | omega) ?_
          refine .gFT (by rfl) (by first | assumption | omega) ?_
          refine .gFT (by rfl) (by first | assumption | omega) ?_
          refine .gFT (by rfl) (by first | assumption | omega) ?_
          refine .gFT (by rfl) (by first | assumption | omega) ?_
          refine .gFT (by rfl) (by first | assumption | omega) ?_
          refine .gff ?_
          refine .pickF (by first | assumption | omega) ?_
          refine .pickff ?_
          refine .condff ?_
          refine .add (by rfl) (by omega) ?_
          exact hL (j - 1) _ _ (by omega) ⟨i + 1, by omega, no (by rw [decide_eq_false c1, decide_eq_false c3, Bool.false_and, Bool.false_and]; rfl), rfl, h⟩
    · have hi : i = ps.length := by omega
      subst hi
      rw [List.take_length] at j2
      refine .psLen hx ?_
      refine .lss ?_
      refine .condF (by first | assumption | omega) ?_
      refine .blk ?_
      refine .ret1 (by rfl) ?_
      intro m hobj
      exact ⟨by rw [j2], h.objs hobj⟩
  · exact ⟨0, by omega, by simp [hasP], rfl, h⟩

/-- Sorted, the lesser ahead, each once. -/
def FormP (ps : List (Int × Int)) : Prop := ∀ (i : Nat) (p : Int × Int), ps[i]? = some p → 0 ≤ p.1 ∧ p.1 < p.2 ∧ ∀ q, 0 < i → ps[i - 1]? = some q → q.1 < p.1 ∨ q.1 = p.1 ∧ q.2 < p.2

set_option maxHeartbeats 8000000 in
theorem call30 {m : Mem} {l : Heap} {x : AV} {ps : List (Int × Int)} (hx : PSl x l ps) (hl : ps.length < 4294967296) (hf : FormP ps) (hs : Sep m l) : Tells (Am.Call T 30 [x] m) fun r m' => r = .bool true ∧ Sep m' l := by
  refine Tells.fn (ps.length + 2) rfl F30_ok rfl ?_
  show Tells (S30 (Am.Call T) (ps.length + 2) m x) _
  have h : Sep ⟨m.objs, none⟩ l := hs.objs rfl
  unfold S30 G30
  refine Tells.loop (fun j vs m => ∃ i : Nat, i + j = ps.length ∧ vs = [x, vI i] ∧ Sep m l) ?_ (i := ps.length) (by omega) ?_
  · rintro j vs m L2 ⟨i, j1, rfl, h⟩ hL
    unfold S30_5 G30_5
    by_cases hi : i < ps.length
    · obtain ⟨p, hp⟩ : ∃ p, ps[i]? = some p := ⟨_, List.getElem?_eq_getElem hi⟩
      obtain ⟨f1, f2, f3⟩ := hf i p hp
      have f1' : ¬ p.1 < 0 := by omega
      have f2' : ¬ p.2 ≤ p.1 := by omega
      by_cases h0 : 0 < i
      · obtain ⟨q, hq⟩ : ∃ q, ps[i - 1]? = some q := ⟨_, List.getElem?_eq_getElem (by omega)⟩
        have ii : ((i : Int) - 1) = ((i - 1 : Nat) : Int) := by omega
        have f4 := f3 q h0 hq
        have n1 : ¬ p.1 < q.1 := by omega
        by_cases he : q.1 = p.1
        · have n2 : ¬ p.2 ≤ q.2 := by omega
          refine .psLen hx ?_
          refine .lss ?_
          refine .condT (by first | assumption | omega) ?_
          refine .psIdx hx (j := i) (by rfl) hp ?_; intro ad had
          refine .pa0 ‹_› ?_; intro bd hbd
          refine .pcLoad h ‹_› ?_
          refine .lss ?_
          refine .gF (by rfl) (by first | assumption | omega) ?_
          refine .gF (by rfl) (by first | assumption | omega) ?_
          refine .gF (by rfl) (by first | assumption | omega) ?_
          refine .psIdx hx (j := i) (by rfl) hp ?_; intro ad had
          refine .gF (by rfl) (by first | assumption | omega) ?_
          refine .pa0 ‹_› ?_; intro bd hbd
          refine .gF (by rfl) (by first | assumption | omega) ?_
          refine .pcLoad h ‹_› ?_
          refine .gF (by rfl) (by first | assumption | omega) ?_
          refine .gF (by rfl) (by first | assumption | omega) ?_
          refine .gF (by rfl) (by first | assumption | omega) ?_
          refine .psIdx hx (j := i) (by rfl) hp ?_; intro ad had
          refine .gF (by rfl) (by first | assumption | omega) ?_
          refine .pa1 ‹_› ?_; intro bd hbd
          refine .gF (by rfl) (by first | assumption | omega) ?_
          refine .pcLoad h ‹_› ?_
          refine .gF (by rfl) (by first | assumption | omega) ?_
          refine .geq ?_
          refine .pickF (by first | assumption | omega) ?_
          refine .condF (by first | assumption | omega) ?_
          refine .gtr ?_
          refine .gT (by rfl) (by first | assumption | omega) ?_
          refine .gT (by rfl) (by first | assumption | omega) ?_
          refine .gT (by rfl) (by first | assumption | omega) ?_
          refine .sub (c := ((i - 1 : Nat) : Int)) ii (by omega) ?_
          refine .gT (by rfl) (by first | assumption | omega) ?_
          refine .psIdx hx (j := i - 1) (by rfl) hq ?_; intro ad had
          refine .gT (by rfl) (by first | assumption | omega) ?_
          refine .pa0 ‹_› ?_; intro bd hbd
          refine .gT (by rfl) (by first | assumption | omega) ?_
          refine .pcLoad h ‹_› ?_
          refine .gT (by rfl) (by first | assumption | omega) ?_
          refine .gT (by rfl) (by first | assumption | omega) ?_
          refine .gT (by rfl) (by first | assumption | omega) ?_
          refine .psIdx hx (j := i) (by rfl) hp ?_; intro ad had
          refine .gT (by rfl) (by first | assumption | omega) ?_
          refine .pa0 ‹_› ?_; intro bd hbd
          refine .gT (by rfl) (by first | assumption | omega) ?_
          refine .pcLoad h ‹_› ?_
          refine .gT (by rfl) (by first | assumption | omega) ?_
          refine .gtr ?_
          refine .gT (by rfl) (by first | assumption | omega) ?_
          refine .gF (by rfl) (by first | assumption | omega) ?_
          refine .gF (by rfl) (by first | assumption | omega) ?_
          refine .gF (by rfl) (by first | assumption | omega) ?_
          refine .sub (c := ((i - 1 : Nat) : Int)) ii (by omega) ?_
          refine .gF (by rfl) (by first | assumption | omega) ?_
          refine .psIdx hx (j := i - 1) (by rfl) hq ?_; intro ad had
          refine .gF (by rfl) (by first | assumption | omega) ?_
          refine .pa0 ‹_› ?_; intro bd hbd
          refine .gF (by rfl) (by first | assumption | omega) ?_
          refine .pcLoad h ‹_› ?_
          refine .gF (by rfl) (by first | assumption | omega) ?_
          refine .gF (by rfl) (by first | assumption | omega) ?_
          refine .gF (by rfl) (by first | assumption | omega) ?_
          refine .psIdx hx (j := i) (by rfl) hp ?_; intro ad had
          refine .gF (by rfl) (by first | assumption | omega) ?_
          refine .pa0 ‹_› ?_; intro bd hbd
          refine .gF (by rfl) (by first | assumption | omega) ?_
          refine .pcLoad h ‹_› ?_
          refine .gF (by rfl) (by first | assumption | omega) ?_
          refine .eql ?_
          refine .gF (by rfl) (by first | assumption | omega) ?_
          refine .gT (by rfl) (by first | assumption | omega) ?_
          refine .gT (by rfl) (by first | assumption | omega) ?_
          refine .gT (by rfl) (by first | assumption | omega) ?_
          refine .sub (c := ((i - 1 : Nat) : Int)) ii (by omega) ?_
          refine .gT (by rfl) (by first | assumption | omega) ?_
          refine .psIdx hx (j := i - 1) (by rfl) hq ?_; intro ad had
          refine .gT (by rfl) (by first | assumption | omega) ?_
          refine .pa1 ‹_› ?_; intro bd hbd
          refine .gT (by rfl) (by first | assumption | omega) ?_
          refine .pcLoad h ‹_› ?_
          refine .gT (by rfl) (by first | assumption | omega) ?_
          refine .gT (by rfl) (by first | assumption | omega) ?_
          refine .gT (by rfl) (by first | assumption | omega) ?_
          refine .psIdx hx (j := i) (by rfl) hp ?_; intro ad had
          refine .gT (by rfl) (by first | assumption | omega) ?_
          refine .pa1 ‹_› ?_; intro bd hbd
          refine .gT (by rfl) (by first | assumption | omega) ?_
          refine .pcLoad h ‹_› ?_
          refine .gT (by rfl) (by first | assumption | omega) ?_
          refine .geq ?_
          refine .gF (by rfl) (by first | assumption | omega) ?_
          refine .pickT (by first | assumption | omega) ?_
          refine .gT (by rfl) (by first | assumption | omega) ?_
          refine .pickF (by first | assumption | omega) ?_
          refine .pickT (by first | assumption | omega) ?_
          refine .condF (by first | assumption | omega) ?_
          refine .add (by rfl) (by omega) ?_
          exact hL (j - 1) _ _ (by omega) ⟨i + 1, by omega, rfl, h⟩
        · refine .psLen hx ?_
          refine .lss ?_
          refine .condT (by first | assumption | omega) ?_
          refine .psIdx hx (j := i) (by rfl) hp ?_; intro ad had
          refine .pa0 ‹_› ?_; intro bd hbd
          refine .pcLoad h ‹_› ?_
          refine .lss ?_
          refine .gF (by rfl) (by first | assumption | omega) ?_
          refine .gF (by rfl) (by first | assumption | omega) ?_
          refine .gF (by rfl) (by first | assumption | omega) ?_
          refine .psIdx hx (j := i) (by rfl) hp ?_; intro ad had
          refine .gF (by rfl) (by first | assumption | omega) ?_
          refine .pa0 ‹_› ?_; intro bd hbd
          refine .gF (by rfl) (by first | assumption | omega) ?_
          refine .pcLoad h ‹_› ?_
          refine .gF (by rfl) (by first | assumption | omega) ?_
          refine .gF (by rfl) (by first | assumption | omega) ?_
          refine .gF (by rfl) (by first | assumption | omega) ?_
          refine .psIdx hx (j := i) (by rfl) hp ?_; intro ad had
          refine .gF (by rfl) (by first | assumption | omega) ?_
          refine .pa1 ‹_› ?_; intro bd hbd
          refine .gF (by rfl) (by first | assumption | omega) ?_
          refine .pcLoad h ‹_› ?_
          refine .gF (by rfl) (by first | assumption | omega) ?_
          refine .geq ?_
          refine .pickF (by first | assumption | omega) ?_
          refine .condF (by first | assumption | omega) ?_
          refine .gtr ?_
          refine .gT (by rfl) (by first | assumption | omega) ?_
          refine .gT (by rfl) (by first | assumption | omega) ?_
          refine .gT (by rfl) (by first | assumption | omega) ?_
          refine .sub (c := ((i - 1 : Nat) : Int)) ii (by omega) ?_
          refine .gT (by rfl) (by first | assumption | omega) ?_
          refine .psIdx hx (j := i - 1) (by rfl) hq ?_; intro ad had
          refine .gT (by rfl) (by first | assumption | omega) ?_
          refine .pa0 ‹_› ?_; intro bd hbd
          refine .gT (by rfl) (by first | assumption | omega) ?_
          refine .pcLoad h ‹_› ?_
          refine .gT (by rfl) (by first | assumption | omega) ?_
          refine .gT (by rfl) (by first | assumption | omega) ?_
          refine .gT (by rfl) (by first | assumption | omega) ?_
          refine .psIdx hx (j := i) (by rfl) hp ?_; intro ad had
          refine .gT (by rfl) (by first | assumption | omega) ?_
          refine .pa0 ‹_› ?_; intro bd hbd
          refine .gT (by rfl) (by first | assumption | omega) ?_
          refine .pcLoad h ‹_› ?_
          refine .gT (by rfl) (by first | assumption | omega) ?_
          refine .gtr ?_
          refine .gT (by rfl) (by first | assumption | omega) ?_
          refine .gF (by rfl) (by first | assumption | omega) ?_
          refine .gF (by rfl) (by first | assumption | omega) ?_
          refine .gF (by rfl) (by first | assumption | omega) ?_
          refine .sub (c := ((i - 1 : Nat) : Int)) ii (by omega) ?_
          refine .gF (by rfl) (by first | assumption | omega) ?_
          refine .psIdx hx (j := i - 1) (by rfl) hq ?_; intro ad had
          refine .gF (by rfl) (by first | assumption | omega) ?_
          refine .pa0 ‹_› ?_; intro bd hbd
          refine .gF (by rfl) (by first | assumption | omega) ?_
          refine .pcLoad h ‹_› ?_
          refine .gF (by rfl) (by first | assumption | omega) ?_
          refine .gF (by rfl) (by first | assumption | omega) ?_
          refine .gF (by rfl) (by first | assumption | omega) ?_
          refine .psIdx hx (j := i) (by rfl) hp ?_; intro ad had
          refine .gF (by rfl) (by first | assumption | omega) ?_
          refine .pa0 ‹_› ?_; intro bd hbd
          refine .gF (by rfl) (by first | assumption | omega) ?_
          refine .pcLoad h ‹_› ?_
          refine .gF (by rfl) (by first | assumption | omega) ?_
          refine .eql ?_
          refine .gF (by rfl) (by first | assumption | omega) ?_
          refine .gFT (by rfl) (by first | assumption | omega) ?_
          refine .gFT (by rfl) (by first | assumption | omega) ?_
          refine .gFT (by rfl) (by first | assumption | omega) ?_
          refine .gFT (by rfl) (by first | assumption | omega) ?_
          refine .gFT (by rfl) (by first | assumption | omega) ?_
          refine .gFT (by rfl) (by first | assumption | omega) ?_
          refine .gFT (by rfl) (by first | assumption | omega) ?_
          refine .gFT (by rfl) (by first | assumption | omega) ?_
          refine .gFT (by rfl) (by first | assumption | omega) ?_
          refine .gFT (by rfl) (by first | assumption | omega) ?_
          refine .gFT (by rfl) (by first | assumption | omega) ?_
          refine .gFT (by rfl) (by first | assumption | omega) ?_
          refine .gF (by rfl) (by first | assumption | omega) ?_
          refine .pickF (by first | assumption | omega) ?_
          refine .gT (by rfl) (by first | assumption | omega) ?_
          refine .pickF (by first | assumption | omega) ?_
          refine .pickT (by first | assumption | omega) ?_
          refine .condff ?_
          refine .add (by rfl) (by omega) ?_
          exact hL (j - 1) _ _ (by omega) ⟨i + 1, by omega, rfl, h⟩
      · refine .psLen hx ?_
        refine .lss ?_
        refine .condT (by first | assumption | omega) ?_
        refine .psIdx hx (j := i) (by rfl) hp ?_; intro ad had
        refine .pa0 ‹_› ?_; intro bd hbd
        refine .pcLoad h ‹_› ?_
        refine .lss ?_
        refine .gF (by rfl) (by first | assumption | omega) ?_
        refine .gF (by rfl) (by first | assumption | omega) ?_
        refine .gF (by rfl) (by first | assumption | omega) ?_
        refine .psIdx hx (j := i) (by rfl) hp ?_; intro ad had
        refine .gF (by rfl) (by first | assumption | omega) ?_
        refine .pa0 ‹_› ?_; intro bd hbd
        refine .gF (by rfl) (by first | assumption | omega) ?_
        refine .pcLoad h ‹_› ?_
        refine .gF (by rfl) (by first | assumption | omega) ?_
        refine .gF (by rfl) (by first | assumption | omega) ?_
        refine .gF (by rfl) (by first | assumption | omega) ?_
        refine .psIdx hx (j := i) (by rfl) hp ?_; intro ad had
        refine .gF (by rfl) (by first | assumption | omega) ?_
        refine .pa1 ‹_› ?_; intro bd hbd
        refine .gF (by rfl) (by first | assumption | omega) ?_
        refine .pcLoad h ‹_› ?_
        refine .gF (by rfl) (by first | assumption | omega) ?_
        refine .geq ?_
        refine .pickF (by first | assumption | omega) ?_
        refine .condF (by first | assumption | omega) ?_
        refine .gtr ?_
        refine .gFT (by rfl) (by first | assumption | omega) ?_
        refine .gFT (by rfl) (by first | assumption | omega) ?_
        refine .gFT (by rfl) (by first | assumption | omega) ?_
        refine .gFT (by rfl) (by first | assumption | omega) ?_
        refine .gFT (by rfl) (by first | assumption | omega) ?_
        refine .gFT (by rfl) (by first | assumption | omega) ?_
        refine .gFT (by rfl) (by first | assumption | omega) ?_
        refine .gFT (by rfl) (by first | assumption | omega) ?_
        refine .gFT (by rfl) (by first | assumption | omega) ?_
        refine .gFT (by rfl) (by first | assumption | omega) ?_
        refine .gFT (by rfl) (by first | assumption | omega) ?_
        refine .gFT (by rfl) (by first | assumption | omega) ?_
        refine .gFT (by rfl) (by first | assumption | omega) ?_
        refine .gN ?_
        refine .gN ?_
        refine .gN ?_
        refine .gN ?_
        refine .gN ?_
        refine .gN ?_
        refine .gN ?_
        refine .gN ?_
        refine .gN ?_
        refine .gN ?_
        refine .gN ?_
        refine .gN ?_
        refine .gN ?_
        refine .gN ?_
        refine .gN ?_
        refine .gN ?_
        refine .gN ?_
        refine .gN ?_
        refine .gN ?_
        refine .gN ?_
        refine .gN ?_
        refine .gN ?_
        refine .gN ?_
        refine .gN ?_
        refine .gN ?_
        refine .gN ?_
        refine .gFT (by rfl) (by first | assumption | omega) ?_
        refine .pickF (by first | assumption | omega) ?_
        refine .condff ?_
        refine .add (by rfl) (by omega) ?_
        exact hL (j - 1) _ _ (by omega) ⟨i + 1, by omega, rfl, h⟩
    · refine .psLen hx ?_
      refine .lss ?_
      refine .condF (by first | assumption | omega) ?_
      refine .blk ?_
      refine .ret1 (by rfl) ?_
      intro m hobj
      exact ⟨rfl, h.objs hobj⟩
  · exact ⟨0, by omega, rfl, h⟩
end Go.Proofs.P17
