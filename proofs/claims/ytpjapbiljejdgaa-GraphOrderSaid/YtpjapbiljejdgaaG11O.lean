/- The order of components: plain words, and the program's walk. -/
import Derived.Test.YtpjapbiljejdgaaG11
import Derived.Test.YtpjapbiljejdgaaAmK
import Derived.KernelRfl
namespace Go.Proofs.G11
set_option linter.unusedSimpArgs false
set_option linter.unusedVariables false
set_option linter.unusedSectionVars false
set_option linter.unnecessarySimpa false
open Go Go.Am
/-! the order, in plain words -/

theorem mem_cls {n : Nat} {R : Nat → Nat → Bool} {i x : Nat} : x ∈ cls n R i ↔ x < n ∧ R i x = true ∧ R x i = true := by
  simp [cls]

theorem cls_sorted {n : Nat} {R : Nat → Nat → Bool} {i : Nat} : (cls n R i).Pairwise (· < ·) := by
  unfold cls
  exact List.Pairwise.filter _ List.pairwise_lt_range

/-- What 'run' tells. -/
structure Good (n : Nat) (R : Nat → Nat → Bool) (d : Nat → Bool) (cs : List (List Nat)) : Prop where
  ne : ∀ c, c ∈ cs → c ≠ []
  lt : ∀ c, c ∈ cs → ∀ x, x ∈ c → x < n
  up : ∀ c, c ∈ cs → c.Pairwise (· < ·)
  new : ∀ c, c ∈ cs → ∀ x, x ∈ c → d x = false
  all : ∀ c, c ∈ cs → ∀ x y, x ∈ c → y < n → (y ∈ c ↔ R x y = true ∧ R y x = true)
  ahead : ∀ (j : Nat) c, cs[j]? = some c → ∀ x y, x ∈ c → y < n → R x y = true → d y = true ∨ ∃ (j' : Nat) (c' : List Nat), j' ≤ j ∧ cs[j']? = some c' ∧ y ∈ c'
  apart : ∀ (j j' : Nat) c c', cs[j]? = some c → cs[j']? = some c' → ∀ x, x ∈ c → x ∈ c' → j = j'

theorem run_good {n : Nat} {R : Nat → Nat → Bool} (hR : Pre n R) : ∀ (m : Nat) (d : Nat → Bool), Shut n R d → Good n R d (run n R m d) := by
  intro m
  induction m with
  | zero => intro d _; constructor <;> simp [run]
  | succ m ih =>
    intro d hs
    unfold run
    cases hnx : next n R d with
    | none => constructor <;> simp
    | some i =>
      obtain ⟨h1, h2, h3, _⟩ := next_some hnx
      have hd : ∀ x, x ∈ cls n R i → d x = false := by
        intro x hx
        obtain ⟨a, b, c⟩ := mem_cls.1 hx
        cases h : d x with
        | false => rfl
        | true => rw [hs x i a h1 c b h] at h2; cases h2
      have hmk : ∀ x, x ∈ cls n R i → mark R d i x = true := by
        intro x hx
        obtain ⟨a, b, c⟩ := mem_cls.1 hx
        simp [mark, b, c]
      have hg := ih (mark R d i) (hs.mark hR h1)
      refine ⟨?_, ?_, ?_, ?_, ?_, ?_, ?_⟩
      · intro c hc
        rcases List.mem_cons.1 hc with rfl | hc
        · intro e
          have : i ∈ cls n R i := mem_cls.2 ⟨h1, hR.refl i h1, hR.refl i h1⟩
          rw [e] at this; cases this
        · exact hg.ne c hc
      · intro c hc
        rcases List.mem_cons.1 hc with rfl | hc
        · intro x hx; exact (mem_cls.1 hx).1
        · exact hg.lt c hc
      · intro c hc
        rcases List.mem_cons.1 hc with rfl | hc
        · exact cls_sorted
        · exact hg.up c hc
      · intro c hc
        rcases List.mem_cons.1 hc with rfl | hc
        · exact hd
        · intro x hx
          have := hg.new c hc x hx
          simp only [mark, Bool.or_eq_false_iff] at this
          exact this.1
      · intro c hc
        rcases List.mem_cons.1 hc with rfl | hc
        · intro x y hx hy
          obtain ⟨a, b, c⟩ := mem_cls.1 hx
          rw [mem_cls]
          constructor
          · rintro ⟨_, p, q⟩
            exact ⟨hR.trans x i y a h1 hy c p, hR.trans y i x hy h1 a q b⟩
          · rintro ⟨p, q⟩
            exact ⟨hy, hR.trans i x y h1 a hy b p, hR.trans y x i hy a h1 q c⟩
        · exact hg.all c hc
      · intro j c hj x y hx hy hxy
        cases j with
        | zero =>
          simp only [List.getElem?_cons_zero, Option.some.injEq] at hj
          subst hj
          obtain ⟨a, b, c⟩ := mem_cls.1 hx
          have hiy := hR.trans i x y h1 a hy b hxy
          rcases ready_iff.1 h3 y hy hiy with h | h
          · exact .inl h
          · exact .inr ⟨0, _, Nat.le_refl _, rfl, mem_cls.2 ⟨hy, hiy, h⟩⟩
        | succ j =>
          simp only [List.getElem?_cons_succ] at hj
          rcases hg.ahead j c hj x y hx hy hxy with h | ⟨j', c', p1, p2, p3⟩
          · simp only [mark, Bool.or_eq_true, Bool.and_eq_true] at h
            rcases h with h | ⟨h4, h5⟩
            · exact .inl h
            · exact .inr ⟨0, _, Nat.zero_le _, rfl, mem_cls.2 ⟨hy, h4, h5⟩⟩
          · exact .inr ⟨j' + 1, c', by omega, by simpa using p2, p3⟩
      · intro j j' c c' hj hj' x hx hx'
        cases j with
        | zero =>
          cases j' with
          | zero => rfl
          | succ j' =>
            simp only [List.getElem?_cons_zero, Option.some.injEq] at hj
            subst hj
            simp only [List.getElem?_cons_succ] at hj'
            have := hg.new c' (List.mem_of_getElem? hj') x hx'
            rw [hmk x hx] at this; cases this
        | succ j =>
          cases j' with
          | zero =>
            simp only [List.getElem?_cons_zero, Option.some.injEq] at hj'
            subst hj'
            simp only [List.getElem?_cons_succ] at hj
            have := hg.new c (List.mem_of_getElem? hj) x hx
            rw [hmk x hx'] at this; cases this
          | succ j' =>
            simp only [List.getElem?_cons_succ] at hj hj'
            rw [hg.apart j j' c c' hj hj' x hx hx']

theorem run_full {n : Nat} {R : Nat → Nat → Bool} (hR : Pre n R) : ∀ (m : Nat) (d : Nat → Bool), Shut n R d → cnt n d ≤ m → (∀ x, x < n → d x = true ∨ ∃ (j : Nat) (c : List Nat), (run n R m d)[j]? = some c ∧ x ∈ c) ∧ ((run n R m d).map List.length).sum = cnt n d := by
  intro m
  induction m with
  | zero =>
    intro d _ hc
    refine ⟨fun x hx => .inl ?_, ?_⟩
    · cases h : d x with
      | true => rfl
      | false => have := cnt_lt hx h; omega
    · simp [run]; omega
  | succ m ih =>
    intro d hs hc
    unfold run
    cases hnx : next n R d with
    | none =>
      have hall : ∀ x, x < n → d x = true := fun x hx => by
        cases h : d x with
        | true => rfl
        | false => obtain ⟨j, hj⟩ := next_ex hR hx h; rw [hnx] at hj; cases hj
      refine ⟨fun x hx => .inl (hall x hx), ?_⟩
      simp only [List.map_nil, List.sum_nil]
      unfold cnt
      rw [List.filter_eq_nil_iff.2 (fun a ha => by simp [hall a (by simpa using ha)])]
      rfl
    | some i =>
      obtain ⟨h1, h2, h3, _⟩ := next_some hnx
      have hlt := cnt_mark hR (d := d) h1 h2
      obtain ⟨g1, g2⟩ := ih (mark R d i) (hs.mark hR h1) (by omega)
      refine ⟨fun x hx => ?_, ?_⟩
      · rcases g1 x hx with h | ⟨j, c, p1, p2⟩
        · simp only [mark, Bool.or_eq_true, Bool.and_eq_true] at h
          rcases h with h | ⟨h4, h5⟩
          · exact .inl h
          · exact .inr ⟨0, _, rfl, mem_cls.2 ⟨hx, h4, h5⟩⟩
        · exact .inr ⟨j + 1, c, by simpa using p1, p2⟩
      · simp only [List.map_cons, List.sum_cons]
        rw [g2, cnt_cls hs h1 h2]; omega

/-- Where each stands. -/
def asg : Nat → List (List Nat) → (Nat → Nat) → Nat → Nat
  | _, [], A => A
  | i, c :: cs, A => asg (i + 1) cs (fun x => if x ∈ c then i else A x)

theorem asg_of : ∀ (cs : List (List Nat)) (i : Nat) (A : Nat → Nat) (x : Nat), (∀ c, c ∈ cs → x ∉ c) → asg i cs A x = A x := by
  intro cs
  induction cs with
  | nil => intro i A x _; rfl
  | cons c cs ih =>
    intro i A x h
    unfold asg
    rw [ih _ _ _ fun c hc => h c (List.mem_cons_of_mem _ hc), if_neg (h c List.mem_cons_self)]

theorem asg_at : ∀ (cs : List (List Nat)) (i : Nat) (A : Nat → Nat) (x j : Nat) (c : List Nat), cs[j]? = some c → x ∈ c → (∀ (j j' : Nat) c c', cs[j]? = some c → cs[j']? = some c' → x ∈ c → x ∈ c' → j = j') → asg i cs A x = i + j := by
  intro cs
  induction cs with
  | nil => intro i A x j c h; simp at h
  | cons c0 cs ih =>
    intro i A x j c hj hx hap
    unfold asg
    cases j with
    | zero =>
      simp only [List.getElem?_cons_zero, Option.some.injEq] at hj
      subst hj
      rw [asg_of]
      · rw [if_pos hx]; rfl
      · intro c' hc' hx'
        obtain ⟨k, hk⟩ := List.getElem?_of_mem hc'
        have := hap 0 (k + 1) _ c' rfl (by simpa using hk) hx hx'
        omega
    | succ j =>
      simp only [List.getElem?_cons_succ] at hj
      rw [ih (i + 1) _ x j c hj hx fun a b c1 c2 h1 h2 h3 h4 => by
        have := hap (a + 1) (b + 1) c1 c2 (by simpa using h1) (by simpa using h2) h3 h4
        omega]
      omega

/-- THE ORDER. -/
theorem order {n : Nat} {R : Nat → Nat → Bool} (hR : Pre n R) {cs : List (List Nat)} (hcs : cs = run n R n fun _ => false) :
    (∀ c, c ∈ cs → c ≠ [] ∧ (∀ x, x ∈ c → x < n) ∧ c.Pairwise (· < ·)) ∧ (cs.map List.length).sum = n ∧
      ∀ a b, a < n → b < n → (asg 0 cs (fun _ => 0) a = asg 0 cs (fun _ => 0) b ↔ R a b = true ∧ R b a = true) ∧ (R a b = true → asg 0 cs (fun _ => 0) b ≤ asg 0 cs (fun _ => 0) a) := by
  have hs : Shut n R fun _ => false := fun a b _ _ _ _ h => by cases h
  have hcnt : cnt n (fun _ => false) = n := by
    unfold cnt
    rw [List.filter_eq_self.2 (by simp), List.length_range]
  have hg := run_good hR n (fun _ => false) hs
  obtain ⟨f1, f2⟩ := run_full hR n (fun _ => false) hs (by omega)
  rw [← hcs] at hg f1 f2
  have hat : ∀ (j : Nat) c x, cs[j]? = some c → x ∈ c → asg 0 cs (fun _ => 0) x = j := fun j c x hj hx => by
    rw [asg_at cs 0 _ x j c hj hx fun a b c1 c2 h1 h2 h3 h4 => hg.apart a b c1 c2 h1 h2 x h3 h4]; omega
  have hin : ∀ x, x < n → ∃ (j : Nat) (c : List Nat), cs[j]? = some c ∧ x ∈ c := fun x hx => by
    rcases f1 x hx with h | h
    · cases h
    · exact h
  refine ⟨fun c hc => ⟨hg.ne c hc, hg.lt c hc, hg.up c hc⟩, by rw [f2, hcnt], fun a b ha hb => ?_⟩
  obtain ⟨ja, ca, a1, a2⟩ := hin a ha
  obtain ⟨jb, cb, b1, b2⟩ := hin b hb
  rw [hat ja ca a a1 a2, hat jb cb b b1 b2]
  refine ⟨⟨fun e => ?_, fun h => ?_⟩, fun h => ?_⟩
  · subst e
    rw [a1] at b1
    cases b1
    exact (hg.all ca (List.mem_of_getElem? a1) a b a2 hb).1 b2
  · exact hg.apart ja jb ca cb a1 b1 b ((hg.all ca (List.mem_of_getElem? a1) a b a2 hb).2 h) b2
  · rcases hg.ahead ja ca a1 a b a2 hb h with h1 | ⟨j', c', p1, p2, p3⟩
    · cases h1
    · rw [hg.apart jb j' cb c' b1 p2 b b2 p3]; exact p1
/-! the order, by the program -/
def rowI (n : Nat) (A : Nat → Nat) : List AV := (List.range n).map fun k => .int .i64 (A k)
theorem rowI_len {n : Nat} {A : Nat → Nat} : (rowI n A).length = n := by simp [rowI]
theorem rowI_get {n k : Nat} {A : Nat → Nat} (h : k < n) : (rowI n A)[k]? = some (.int .i64 (A k)) := by
  simp [rowI, List.getElem?_range h]
theorem rowI_set {n i v : Nat} {A : Nat → Nat} : (rowI n A).set i (.int .i64 v) = rowI n (fun k => if k = i then v else A k) := by
  apply List.ext_getElem?
  intro k
  by_cases hk : k < n
  · rw [rowI_get hk, List.getElem?_set]
    by_cases e : i = k
    · subst e; simp [rowI_len, hk]
    · rw [if_neg e, rowI_get hk, if_neg (fun h => e h.symm)]
  · rw [List.getElem?_eq_none (by simp [rowI_len]; omega), List.getElem?_eq_none (by simp [rowI_len]; omega)]
theorem rowI_zero {n : Nat} : List.replicate n (AV.int .i64 0) = rowI n (fun _ => 0) := by
  apply List.ext_getElem?
  intro k
  by_cases hk : k < n
  · rw [rowI_get hk]; simp [hk]
  · rw [List.getElem?_eq_none (by simp; omega), List.getElem?_eq_none (by simp [rowI_len]; omega)]
theorem rowI_congr {n : Nat} {A B : Nat → Nat} (h : ∀ k, k < n → A k = B k) : rowI n A = rowI n B :=
  List.map_congr_left fun k hk => by rw [h k (List.mem_range.1 hk)]

theorem eqv_bb (a b : Bool) : AV.eqv ⟨[.b], false⟩ (.bool a) (.bool b) = some (a == b) := by cases a <;> cases b <;> rfl

theorem under_rowI {m n : Nat} {A : Nat → Nat} : AV.underAll m (rowI n A) = true := underAll_map fun _ _ => rfl

-- LENS rowB_len, refs_len, put_len, rowI_len

section ord
variable {os : List AObj} {n : Nat} {calls : List (List Int)} {R : Nat → Nat → Bool} {cs : List (List Nat)} (hcn : calls.length = n) (hn : n < 1000000)
section
include hcn
theorem loop4_4 {i : Nat} {c : List Nat} (hi : i < 1000000) (hc : cs[i]? = some c) (hlt : ∀ x, x ∈ c → x < n) (hup : c.Pairwise (· < ·)) (hl : c.length < 1000000) : ∀ (rest pre : List Nat), c = pre ++ rest → ∀ (A : Nat → Nat) (m : Nat), m + rest.length < 1000000000000 →
    catchE (It T b4_4 [0, 3, 4, 5, 6, 7, 8] none [(0, vL calls), (3, .list .shared 1 (cs.map vNs)), (4, .list .shared 1 (refs n fun j => 1 + j)), (5, .ref os.length 0 0 n), (6, .int .i64 m), (7, .int .i64 i), (8, .int .i64 pre.length)] ⟨os ++ [.row 0 (rowI n A)], none⟩) 2 =
      some (.nrm, [(0, vL calls), (3, .list .shared 1 (cs.map vNs)), (4, .list .shared 1 (refs n fun j => 1 + j)), (5, .ref os.length 0 0 n), (6, .int .i64 (m + rest.length : Nat)), (7, .int .i64 i), (8, .int .i64 c.length), (40, .bool false)], ⟨os ++ [.row 0 (rowI n fun x => if x ∈ rest then i else A x)], none⟩) := by
  have hv : (cs.map vNs)[i]? = some (vNs c) := by simp [hc]
  intro rest
  induction rest with
  | nil =>
    intro pre hp A m hm
    rw [It_step]
    simp only [List.append_nil] at hp
    subst hp
    simp (disch := first | omega | (simp only [List.length_append, List.length_cons, List.length_nil, List.length_set, List.length_map, List.length_replicate, List.length_range, rowB_len, refs_len, put_len, rowI_len]; omega)) only [go_sem, ↓reduceIte, Nat.reduceEqDiff, Nat.reduceAdd, Nat.reduceMul, Nat.reduceSub, Nat.reduceLT, Nat.reduceLeDiff, Nat.reduceGT, Int.reduceLT, Int.reduceLE, Int.reduceEq, Int.reduceAdd, Int.reduceNeg, Int.reduceToNat, String.reduceEq, Bool.not_eq_true, Bool.false_eq_true, if_true, if_false, reduceCtorEq, not_true_eq_false, not_false_eq_true, decide_true, decide_false, and_self, true_or, or_true, false_or, or_false, false_and, and_false, ne_eq, Bool.or_true, Bool.true_or, Bool.or_false, Bool.false_or, if_pos, if_neg, decide_eq_true, decide_eq_false, unf b4_4.eq_1, hv, List.not_mem_nil]
  | cons x rest ih =>
    intro pre hp A m hm
    have hlen : pre.length + (rest.length + 1) = c.length := by rw [hp]; simp
    simp only [List.length_cons] at hm
    have hw : IntKind.wrap .i64 ((pre.length : Int) + 1) = ((pre.length + 1 : Nat) : Int) := by rw [wrap_id] <;> omega
    have hw2 : IntKind.wrap .i64 ((m : Int) + 1) = ((m + 1 : Nat) : Int) := by rw [wrap_id] <;> omega
    have hx : (c.map vN)[pre.length]? = some (.int .i64 (x : Int)) := by rw [hp, List.map_append, List.map_cons, mid_get]
    have hxn : x < n := hlt x (by rw [hp]; simp)
    have h2 := ih (pre ++ [x]) (by rw [hp]; simp) (fun k => if k = x then i else A k) (m + 1) (by omega)
    have hfun : (fun y => if y ∈ rest then i else if y = x then i else A y) = fun y => if y ∈ x :: rest then i else A y := by
      funext y
      by_cases h1 : y ∈ rest <;> by_cases h3 : y = x <;> simp [h1, h3]
    rw [hfun] at h2
    simp only [List.length_append, List.length_cons, List.length_nil, Nat.zero_add] at h2
    have hsum : m + 1 + rest.length = m + (rest.length + 1) := by omega
    rw [hsum] at h2
    rw [It_step, List.length_cons, ← h2]
    rcases List.eq_nil_or_concat pre with rfl | ⟨pre', y, rfl⟩
    · simp only [List.length_nil] at hx hw ⊢
      simp (disch := first | omega | (simp only [List.length_append, List.length_cons, List.length_nil, List.length_set, List.length_map, List.length_replicate, List.length_range, rowB_len, refs_len, put_len, rowI_len]; omega)) only [go_sem, ↓reduceIte, Nat.reduceEqDiff, Nat.reduceAdd, Nat.reduceMul, Nat.reduceSub, Nat.reduceLT, Nat.reduceLeDiff, Nat.reduceGT, Int.reduceLT, Int.reduceLE, Int.reduceEq, Int.reduceAdd, Int.reduceNeg, Int.reduceToNat, String.reduceEq, Bool.not_eq_true, Bool.false_eq_true, if_true, if_false, reduceCtorEq, not_true_eq_false, not_false_eq_true, decide_true, decide_false, and_self, true_or, or_true, false_or, or_false, false_and, and_false, ne_eq, Bool.or_true, Bool.true_or, Bool.or_false, Bool.false_or, if_pos, if_neg, decide_eq_true, decide_eq_false, unf b4_4.eq_1, unf b4_5.eq_1, unf b4_6.eq_1, unf b4_7.eq_1, hv, hx, hw, hw2, rowI_set, rowI_get, under_rowI]
    · have hy : (c.map vN)[pre'.length]? = some (.int .i64 (y : Int)) := by
        rw [hp]
        simp only [List.append_assoc, List.map_append, List.map_cons, List.cons_append, List.nil_append, List.concat_eq_append]
        rw [mid_get]
      have hyx : y < x := by
        rw [hp] at hup
        have := (List.pairwise_append.1 hup).2.2 y (by simp) x (by simp)
        exact this
      have hlen' : pre'.length + 1 + (rest.length + 1) = c.length := by simpa using hlen
      have hw3 : IntKind.wrap .i64 (((pre'.length + 1 : Nat) : Int) - 1) = ((pre'.length : Nat) : Int) := by rw [wrap_id] <;> omega
      simp only [List.concat_eq_append, List.length_append, List.length_cons, List.length_nil, Nat.zero_add] at hx hw hlen ⊢
      simp (disch := first | omega | (simp only [List.length_append, List.length_cons, List.length_nil, List.length_set, List.length_map, List.length_replicate, List.length_range, rowB_len, refs_len, put_len, rowI_len]; omega)) only [go_sem, ↓reduceIte, Nat.reduceEqDiff, Nat.reduceAdd, Nat.reduceMul, Nat.reduceSub, Nat.reduceLT, Nat.reduceLeDiff, Nat.reduceGT, Int.reduceLT, Int.reduceLE, Int.reduceEq, Int.reduceAdd, Int.reduceNeg, Int.reduceToNat, String.reduceEq, Bool.not_eq_true, Bool.false_eq_true, if_true, if_false, reduceCtorEq, not_true_eq_false, not_false_eq_true, decide_true, decide_false, and_self, true_or, or_true, false_or, or_false, false_and, and_false, ne_eq, Bool.or_true, Bool.true_or, Bool.or_false, Bool.false_or, if_pos, if_neg, decide_eq_true, decide_eq_false, unf b4_4.eq_1, unf b4_5.eq_1, unf b4_6.eq_1, unf b4_7.eq_1, hv, hx, hy, hw, hw2, hw3, rowI_set, rowI_get, under_rowI]

theorem loop4_1 (hcs : cs.length < 1000000) (hne : ∀ c, c ∈ cs → c ≠ [] ∧ (∀ x, x ∈ c → x < n) ∧ c.Pairwise (· < ·)) (hlen : ∀ c, c ∈ cs → c.length < 1000000) : ∀ (rest pre : List (List Nat)), cs = pre ++ rest → ∀ (A : Nat → Nat) (m : Nat), m + (rest.map List.length).sum < 1000000000000 →
    catchE (It T b4_1 [0, 3, 4, 5, 6, 7] none [(0, vL calls), (3, .list .shared 1 (cs.map vNs)), (4, .list .shared 1 (refs n fun j => 1 + j)), (5, .ref os.length 0 0 n), (6, .int .i64 m), (7, .int .i64 pre.length)] ⟨os ++ [.row 0 (rowI n A)], none⟩) 0 =
      some (.nrm, [(0, vL calls), (3, .list .shared 1 (cs.map vNs)), (4, .list .shared 1 (refs n fun j => 1 + j)), (5, .ref os.length 0 0 n), (6, .int .i64 (m + (rest.map List.length).sum : Nat)), (7, .int .i64 cs.length), (25, .bool false)], ⟨os ++ [.row 0 (rowI n (asg pre.length rest A))], none⟩) := by
  intro rest
  induction rest with
  | nil =>
    intro pre hp A m hm
    rw [It_step]
    simp only [List.append_nil] at hp
    subst hp
    simp (disch := first | omega | (simp only [List.length_append, List.length_cons, List.length_nil, List.length_set, List.length_map, List.length_replicate, List.length_range, rowB_len, refs_len, put_len, rowI_len]; omega)) only [go_sem, ↓reduceIte, Nat.reduceEqDiff, Nat.reduceAdd, Nat.reduceMul, Nat.reduceSub, Nat.reduceLT, Nat.reduceLeDiff, Nat.reduceGT, Int.reduceLT, Int.reduceLE, Int.reduceEq, Int.reduceAdd, Int.reduceNeg, Int.reduceToNat, String.reduceEq, Bool.not_eq_true, Bool.false_eq_true, if_true, if_false, reduceCtorEq, not_true_eq_false, not_false_eq_true, decide_true, decide_false, and_self, true_or, or_true, false_or, or_false, false_and, and_false, ne_eq, Bool.or_true, Bool.true_or, Bool.or_false, Bool.false_or, if_pos, if_neg, decide_eq_true, decide_eq_false, unf b4_1.eq_1, asg, List.sum_nil]
  | cons c rest ih =>
    intro pre hp A m hm
    have hl : pre.length + (rest.length + 1) = cs.length := by rw [hp]; simp
    simp only [List.map_cons, List.sum_cons] at hm
    have hc : cs[pre.length]? = some c := by rw [hp]; simp
    have hv : (cs.map vNs)[pre.length]? = some (vNs c) := by simp [hc]
    have hmem : c ∈ cs := List.mem_of_getElem? hc
    obtain ⟨q1, q2, q3⟩ := hne c hmem
    have hcl := hlen c hmem
    have hc0 : 0 < c.length := List.length_pos_iff.2 q1
    have hw : IntKind.wrap .i64 ((pre.length : Int) + 1) = ((pre.length + 1 : Nat) : Int) := by rw [wrap_id] <;> omega
    have h1 := loop4_4 hcn (os := os) (cs := cs) (i := pre.length) (by omega) hc q2 q3 hcl c [] rfl A m (by omega)
    have h2 := ih (pre ++ [c]) (by rw [hp]; simp) (fun x => if x ∈ c then pre.length else A x) (m + c.length) (by omega)
    simp only [List.length_append, List.length_cons, List.length_nil, Nat.zero_add] at h2
    rw [show m + c.length + (rest.map List.length).sum = m + (c.length + (rest.map List.length).sum) by omega] at h2
    rw [List.length_nil, show ((0 : Nat) : Int) = 0 from rfl] at h1
    have hne0 : ¬ ((c.length : Int) = 0) := by omega
    rw [It_step, List.map_cons, List.sum_cons, asg, ← h2]
    simp (disch := first | omega | (simp only [List.length_append, List.length_cons, List.length_nil, List.length_set, List.length_map, List.length_replicate, List.length_range, rowB_len, refs_len, put_len, rowI_len]; omega)) only [go_sem, ↓reduceIte, Nat.reduceEqDiff, Nat.reduceAdd, Nat.reduceMul, Nat.reduceSub, Nat.reduceLT, Nat.reduceLeDiff, Nat.reduceGT, Int.reduceLT, Int.reduceLE, Int.reduceEq, Int.reduceAdd, Int.reduceNeg, Int.reduceToNat, String.reduceEq, Bool.not_eq_true, Bool.false_eq_true, if_true, if_false, reduceCtorEq, not_true_eq_false, not_false_eq_true, decide_true, decide_false, and_self, true_or, or_true, false_or, or_false, false_and, and_false, ne_eq, Bool.or_true, Bool.true_or, Bool.or_false, Bool.false_or, if_pos, if_neg, decide_eq_true, decide_eq_false, unf b4_1.eq_1, unf b4_2.eq_1, unf b4_3.eq_1, unf b4_8.eq_1, hv, hw, h1, hne0]

end
theorem vK_some {v : AV} {M : Mem} {k : KV} : vK (some v) M k = k v M := rfl
theorem gK_tt {run : KV → Rho} {M : Mem} {k : KV} : gK (.bool true) true run M k = run k := rfl
theorem gK_ff {run : KV → Rho} {M : Mem} {k : KV} : gK (.bool false) false run M k = run k := rfl
theorem gK_tf {run : KV → Rho} {M : Mem} {k : KV} : gK (.bool true) false run M k = k (.tuple []) M := rfl
theorem gK_ft {run : KV → Rho} {M : Mem} {k : KV} : gK (.bool false) true run M k = k (.tuple []) M := rfl
theorem gK_no {w : Bool} {run : KV → Rho} {M : Mem} {k : KV} : gK (.tuple []) w run M k = k (.tuple []) M := rfl
theorem pickK_t {a : AV} {b : Option AV} {k : AV → Rho} : pickK (.bool true) (some a) b k = k a := rfl
theorem pickK_f {b : AV} {a : Option AV} {k : AV → Rho} : pickK (.bool false) a (some b) k = k b := rfl
theorem binK_eql {kd : IntKind} {a b : Int} {k : AV → Rho} : binK .eql (.int kd a) (.int kd b) k = k (.bool (decide (a = b))) := by
  simp only [binK, bin_eql]
theorem binK_gtr {kd : IntKind} {a b : Int} {k : AV → Rho} : binK .gtr (.int kd a) (.int kd b) k = k (.bool (decide (b < a))) := by
  simp only [binK, bin_gtr]
theorem eqvK_ne {a b : Bool} {k : AV → Rho} : eqvK ⟨[.b], false⟩ true (.bool a) (.bool b) k = k (.bool (!(a == b))) := by
  simp only [eqvK, eqv_bb, if_true]

theorem opsK_inv {call : Nat → List AV → Mem → Option (AV × Mem)} {ops : List IOper} {L : Env} {M : Mem} {L' : Env} {M' : Mem} (h : ∀ k : KN, opsK call ops L M k = k L' M') : evOps call ops L M = some (L', M') := by
  classical
  have h1 := h fun e m => if e = L' ∧ m = M' then some (.bool true, m) else none
  rw [opsK_eq] at h1
  rw [if_pos ⟨rfl, rfl⟩] at h1
  cases h2 : evOps call ops L M with
  | none => rw [h2] at h1; cases h1
  | some r =>
    obtain ⟨e, m⟩ := r
    rw [h2] at h1
    simp only at h1
    split at h1
    · rename_i hc; rw [hc.1, hc.2]
    · cases h1

def R4 (y0 y1 y2 y3 y4 y5 : AV) (m : Mem) (k : KN) : Rho :=
  vK (aIndexAddr m 1 y2 y3) m fun a0 m1 =>
  vK (m1.load none a0) m1 fun a2 m3 =>
  vK (aIndexAddr m3 1 y2 y4) m3 fun a4 m5 =>
  vK (m5.load none a4) m5 fun a6 m7 =>
  binK .eql a2 a6 fun a8 =>
  vK (aIndexAddr m7 1 y1 y3) m7 fun a9 m10 =>
  vK (m10.load none a9) m10 fun a11 m12 =>
  vK (aIndexAddr m12 1 a11 y4) m12 fun a13 m14 =>
  vK (m14.load none a13) m14 fun a15 m16 =>
  gK a15 true (fun k => k y1 m16) m16 fun a17 m18 =>
  gK a15 true (fun k => k y4 m18) m18 fun a19 m20 =>
  gK a15 true (fun k => vK (aIndexAddr m20 1 a17 a19) m20 fun a21 m22 =>
  k a21 m22) m20 fun a23 m24 =>
  gK a15 true (fun k => vK (m24.load none a23) m24 fun a25 m26 =>
  k a25 m26) m24 fun a27 m28 =>
  gK a15 true (fun k => k y3 m28) m28 fun a29 m30 =>
  gK a15 true (fun k => vK (aIndexAddr m30 1 a27 a29) m30 fun a31 m32 =>
  k a31 m32) m30 fun a33 m34 =>
  gK a15 true (fun k => vK (m34.load none a33) m34 fun a35 m36 =>
  k a35 m36) m34 fun a37 m38 =>
  pickK a15 (some a37) (some (.bool false)) fun a39 =>
  eqvK ⟨[.b], false⟩ true a8 a39 fun a40 =>
  gK a40 false (fun k => k y1 m38) m38 fun a41 m42 =>
  gK a40 false (fun k => k y3 m42) m42 fun a43 m44 =>
  gK a40 false (fun k => vK (aIndexAddr m44 1 a41 a43) m44 fun a45 m46 =>
  k a45 m46) m44 fun a47 m48 =>
  gK a40 false (fun k => vK (m48.load none a47) m48 fun a49 m50 =>
  k a49 m50) m48 fun a51 m52 =>
  gK a40 false (fun k => k y4 m52) m52 fun a53 m54 =>
  gK a40 false (fun k => vK (aIndexAddr m54 1 a51 a53) m54 fun a55 m56 =>
  k a55 m56) m54 fun a57 m58 =>
  gK a40 false (fun k => vK (m58.load none a57) m58 fun a59 m60 =>
  k a59 m60) m58 fun a61 m62 =>
  gK a40 false (fun k => k a61 m62) m62 fun a63 m64 =>
  gK a63 true (fun k => k y2 m64) m64 fun a65 m66 =>
  gK a63 true (fun k => k y4 m66) m66 fun a67 m68 =>
  gK a63 true (fun k => vK (aIndexAddr m68 1 a65 a67) m68 fun a69 m70 =>
  k a69 m70) m68 fun a71 m72 =>
  gK a63 true (fun k => vK (m72.load none a71) m72 fun a73 m74 =>
  k a73 m74) m72 fun a75 m76 =>
  gK a63 true (fun k => k y2 m76) m76 fun a77 m78 =>
  gK a63 true (fun k => k y3 m78) m78 fun a79 m80 =>
  gK a63 true (fun k => vK (aIndexAddr m80 1 a77 a79) m80 fun a81 m82 =>
  k a81 m82) m80 fun a83 m84 =>
  gK a63 true (fun k => vK (m84.load none a83) m84 fun a85 m86 =>
  k a85 m86) m84 fun a87 m88 =>
  gK a63 true (fun k => binK .gtr a75 a87 fun a89 =>
  k a89 m88) m88 fun a90 m91 =>
  gK a40 false (fun k => pickK a63 (some a90) (some (.bool false)) fun a92 =>
  k a92 m91) m91 fun a93 m94 =>
  pickK a40 (some (.bool true)) (some a93) fun a95 =>
  k [(141, a95), (140, a93), (139, a90), (138, a87), (137, a83), (136, a79), (135, a77), (134, a75), (133, a71), (132, a67), (131, a65), (130, a63), (129, a61), (128, a57), (127, a53), (126, a51), (125, a47), (124, a43), (123, a41), (122, a40), (121, a40), (120, a39), (119, a37), (118, a33), (117, a29), (116, a27), (115, a23), (114, a19), (113, a17), (112, a15), (111, a15), (110, a13), (109, y4), (108, a11), (107, a9), (106, y3), (105, y1), (104, a8), (103, a6), (102, a4), (101, y4), (100, y2), (99, a2), (98, a0), (97, y3), (96, y2), (0, y0), (4, y1), (5, y2), (10, y3), (11, y4), (93, y5)] m94

theorem R4_eq (call : Nat → List AV → Mem → Option (AV × Mem)) (y0 y1 y2 y3 y4 y5 : AV) (m : Mem) (k : KN) : opsK call (d4_15.map (·.1)) [(0, y0), (4, y1), (5, y2), (10, y3), (11, y4), (93, y5)] m k = R4 y0 y1 y2 y3 y4 y5 m k := by kernel_rfl

theorem reg4_15 (A : Nat → Nat) (f : Nat → Nat → Bool) {i k : Nat} (hi : i < n) (hkn : k < n) (hri : (os ++ [.row 0 (rowI n A)])[1 + i]? = some (.row 0 (rowB n (f i)))) (hrk : (os ++ [.row 0 (rowI n A)])[1 + k]? = some (.row 0 (rowB n (f k)))) (h3 : f i k = true) (h4 : f k i = true) (h6 : ¬ ((A i : Int) < A k)) (h7 : (A i : Int) = A k) :
    ∃ L', (∀ kn : KN, R4 (vL calls) (.list .shared 1 (refs n fun j => 1 + j)) (.ref os.length 0 0 n) (.int .i64 i) (.int .i64 k) (.bool true) ⟨os ++ [.row 0 (rowI n A)], none⟩ kn = kn L' ⟨os ++ [.row 0 (rowI n A)], none⟩) ∧
      L'.keep [0, 4, 5, 10, 11, 141] = [(0, vL calls), (4, .list .shared 1 (refs n fun j => 1 + j)), (5, .ref os.length 0 0 n), (10, .int .i64 i), (11, .int .i64 k), (141, .bool false)] := by
  refine ⟨?L, fun kn => ?_, ?_⟩
  case refine_1 =>
    simp (disch := first | omega | (simp only [List.length_append, List.length_cons, List.length_nil, List.length_set, List.length_map, List.length_replicate, List.length_range, rowB_len, refs_len, put_len, rowI_len]; omega)) only [go_sem, ↓reduceIte, Nat.reduceEqDiff, Nat.reduceAdd, Nat.reduceMul, Nat.reduceSub, Nat.reduceLT, Nat.reduceLeDiff, Nat.reduceGT, Int.reduceLT, Int.reduceLE, Int.reduceEq, Int.reduceAdd, Int.reduceNeg, Int.reduceToNat, String.reduceEq, Bool.not_eq_true, Bool.false_eq_true, if_true, if_false, reduceCtorEq, not_true_eq_false, not_false_eq_true, decide_true, decide_false, and_self, true_or, or_true, false_or, or_false, false_and, and_false, ne_eq, Bool.or_true, Bool.true_or, Bool.or_false, Bool.false_or, if_pos, if_neg, decide_eq_true, decide_eq_false, R4, vK_some, gK_tt, gK_ff, gK_tf, gK_ft, gK_no, pickK_t, pickK_f, binK_eql, binK_gtr, eqvK_ne, hri, hrk, rowI_get, beq_self_eq_true, h3, h4, h6, h7]
    rfl
  case refine_2 => rfl

theorem reg4_15b (A : Nat → Nat) (f : Nat → Nat → Bool) {i k : Nat} (hi : i < n) (hkn : k < n) (hri : (os ++ [.row 0 (rowI n A)])[1 + i]? = some (.row 0 (rowB n (f i)))) (hrk : (os ++ [.row 0 (rowI n A)])[1 + k]? = some (.row 0 (rowB n (f k)))) (h3 : f i k = true) (h4 : f k i = false) (h6 : ¬ ((A i : Int) < A k)) (h7 : ¬ (A i : Int) = A k) :
    ∃ L', (∀ kn : KN, R4 (vL calls) (.list .shared 1 (refs n fun j => 1 + j)) (.ref os.length 0 0 n) (.int .i64 i) (.int .i64 k) (.bool true) ⟨os ++ [.row 0 (rowI n A)], none⟩ kn = kn L' ⟨os ++ [.row 0 (rowI n A)], none⟩) ∧
      L'.keep [0, 4, 5, 10, 11, 141] = [(0, vL calls), (4, .list .shared 1 (refs n fun j => 1 + j)), (5, .ref os.length 0 0 n), (10, .int .i64 i), (11, .int .i64 k), (141, .bool false)] := by
  refine ⟨?L, fun kn => ?_, ?_⟩
  case refine_1 =>
    simp (disch := first | omega | (simp only [List.length_append, List.length_cons, List.length_nil, List.length_set, List.length_map, List.length_replicate, List.length_range, rowB_len, refs_len, put_len, rowI_len]; omega)) only [go_sem, ↓reduceIte, Nat.reduceEqDiff, Nat.reduceAdd, Nat.reduceMul, Nat.reduceSub, Nat.reduceLT, Nat.reduceLeDiff, Nat.reduceGT, Int.reduceLT, Int.reduceLE, Int.reduceEq, Int.reduceAdd, Int.reduceNeg, Int.reduceToNat, String.reduceEq, Bool.not_eq_true, Bool.false_eq_true, if_true, if_false, reduceCtorEq, not_true_eq_false, not_false_eq_true, decide_true, decide_false, and_self, true_or, or_true, false_or, or_false, false_and, and_false, ne_eq, Bool.or_true, Bool.true_or, Bool.or_false, Bool.false_or, if_pos, if_neg, decide_eq_true, decide_eq_false, R4, vK_some, gK_tt, gK_ff, gK_tf, gK_ft, gK_no, pickK_t, pickK_f, binK_eql, binK_gtr, eqvK_ne, hri, hrk, rowI_get, beq_self_eq_true, h3, h4, h6, h7]
    rfl
  case refine_2 => rfl

theorem reg4_15c (A : Nat → Nat) (f : Nat → Nat → Bool) {i k : Nat} (hi : i < n) (hkn : k < n) (hri : (os ++ [.row 0 (rowI n A)])[1 + i]? = some (.row 0 (rowB n (f i)))) (hrk : (os ++ [.row 0 (rowI n A)])[1 + k]? = some (.row 0 (rowB n (f k)))) (h3 : f i k = false) (h7 : ¬ (A i : Int) = A k) :
    ∃ L', (∀ kn : KN, R4 (vL calls) (.list .shared 1 (refs n fun j => 1 + j)) (.ref os.length 0 0 n) (.int .i64 i) (.int .i64 k) (.bool true) ⟨os ++ [.row 0 (rowI n A)], none⟩ kn = kn L' ⟨os ++ [.row 0 (rowI n A)], none⟩) ∧
      L'.keep [0, 4, 5, 10, 11, 141] = [(0, vL calls), (4, .list .shared 1 (refs n fun j => 1 + j)), (5, .ref os.length 0 0 n), (10, .int .i64 i), (11, .int .i64 k), (141, .bool false)] := by
  refine ⟨?L, fun kn => ?_, ?_⟩
  case refine_1 =>
    simp (disch := first | omega | (simp only [List.length_append, List.length_cons, List.length_nil, List.length_set, List.length_map, List.length_replicate, List.length_range, rowB_len, refs_len, put_len, rowI_len]; omega)) only [go_sem, ↓reduceIte, Nat.reduceEqDiff, Nat.reduceAdd, Nat.reduceMul, Nat.reduceSub, Nat.reduceLT, Nat.reduceLeDiff, Nat.reduceGT, Int.reduceLT, Int.reduceLE, Int.reduceEq, Int.reduceAdd, Int.reduceNeg, Int.reduceToNat, String.reduceEq, Bool.not_eq_true, Bool.false_eq_true, if_true, if_false, reduceCtorEq, not_true_eq_false, not_false_eq_true, decide_true, decide_false, and_self, true_or, or_true, false_or, or_false, false_and, and_false, ne_eq, Bool.or_true, Bool.true_or, Bool.or_false, Bool.false_or, if_pos, if_neg, decide_eq_true, decide_eq_false, R4, vK_some, gK_tt, gK_ff, gK_tf, gK_ft, gK_no, pickK_t, pickK_f, binK_eql, binK_gtr, eqvK_ne, hri, hrk, rowI_get, beq_self_eq_true, h3, h7]
    rfl
  case refine_2 => rfl

theorem evD_free {ops : List (IOper × Nat × Nat)} {outs : List Nat} {L : Env} {M : Mem} {L' : Env} {M' : Mem} (he : effFree ops = true) (hf : fitsD 1 ops = true) (h : ∀ k : KN, opsK (Am.Call T) (ops.map (·.1)) L M k = k L' M') : Ev T (.regD ops outs) L M = some (.nrm, L'.keep outs, M') := by
  obtain ⟨rfl, tr, h1, h2⟩ := effFree_run he (opsK_inv h)
  rw [ev_regD, h1]
  simp only [h2 hf, if_true]

include hcn hn
theorem loop4_13 (A : Nat → Nat) (f : Nat → Nat → Bool) (hrow : ∀ i, i < n → (os ++ [.row 0 (rowI n A)])[1 + i]? = some (.row 0 (rowB n (f i)))) {i : Nat} (hi : i < n)
    (hA : ∀ a b, a < n → b < n → (A a = A b ↔ f a b = true ∧ f b a = true) ∧ (f a b = true → A b ≤ A a)) : ∀ (m k : Nat), k + m = n →
    catchE (It T b4_13 [0, 4, 5, 10, 11] none [(0, vL calls), (4, .list .shared 1 (refs n fun j => 1 + j)), (5, .ref os.length 0 0 n), (10, .int .i64 i), (11, .int .i64 k)] ⟨os ++ [.row 0 (rowI n A)], none⟩) 6 =
      some (.nrm, [(0, vL calls), (4, .list .shared 1 (refs n fun j => 1 + j)), (5, .ref os.length 0 0 n), (10, .int .i64 i), (11, .int .i64 n), (93, .bool false)], ⟨os ++ [.row 0 (rowI n A)], none⟩) := by
  intro m
  induction m with
  | zero =>
    intro k hk
    rw [It_step]
    obtain rfl : k = n := by omega
    simp (disch := first | omega | (simp only [List.length_append, List.length_cons, List.length_nil, List.length_set, List.length_map, List.length_replicate, List.length_range, rowB_len, refs_len, put_len, rowI_len]; omega)) only [go_sem, ↓reduceIte, Nat.reduceEqDiff, Nat.reduceAdd, Nat.reduceMul, Nat.reduceSub, Nat.reduceLT, Nat.reduceLeDiff, Nat.reduceGT, Int.reduceLT, Int.reduceLE, Int.reduceEq, Int.reduceAdd, Int.reduceNeg, Int.reduceToNat, String.reduceEq, Bool.not_eq_true, Bool.false_eq_true, if_true, if_false, reduceCtorEq, not_true_eq_false, not_false_eq_true, decide_true, decide_false, and_self, true_or, or_true, false_or, or_false, false_and, and_false, ne_eq, Bool.or_true, Bool.true_or, Bool.or_false, Bool.false_or, if_pos, if_neg, decide_eq_true, decide_eq_false, unf b4_13.eq_1, hcn]
  | succ m ih =>
    intro k hk
    have hkn : k < n := by omega
    have hw : IntKind.wrap .i64 ((k : Int) + 1) = ((k + 1 : Nat) : Int) := by rw [wrap_id] <;> omega
    obtain ⟨p1, p2⟩ := hA i k hi hkn
    have h2 := ih (k + 1) (by omega)
    have hri := hrow i hi
    have hrk := hrow k hkn
    rw [It_step, ← h2]
    have hreg : Ev T (.regD d4_15 [0, 4, 5, 10, 11, 141]) [(0, vL calls), (4, .list .shared 1 (refs n fun j => 1 + j)), (5, .ref os.length 0 0 n), (10, .int .i64 i), (11, .int .i64 k), (93, .bool true)] ⟨os ++ [.row 0 (rowI n A)], none⟩ =
      some (.nrm, [(0, vL calls), (4, .list .shared 1 (refs n fun j => 1 + j)), (5, .ref os.length 0 0 n), (10, .int .i64 i), (11, .int .i64 k), (141, .bool false)], ⟨os ++ [.row 0 (rowI n A)], none⟩) := by
      have key : ∃ L', (∀ kn : KN, R4 (vL calls) (.list .shared 1 (refs n fun j => 1 + j)) (.ref os.length 0 0 n) (.int .i64 i) (.int .i64 k) (.bool true) ⟨os ++ [.row 0 (rowI n A)], none⟩ kn = kn L' ⟨os ++ [.row 0 (rowI n A)], none⟩) ∧
          L'.keep [0, 4, 5, 10, 11, 141] = [(0, vL calls), (4, .list .shared 1 (refs n fun j => 1 + j)), (5, .ref os.length 0 0 n), (10, .int .i64 i), (11, .int .i64 k), (141, .bool false)] := by
        cases h3 : f i k with
        | true =>
          have h5 := p2 h3
          have h6 : ¬ ((A i : Int) < A k) := by omega
          cases h4 : f k i with
          | true => exact reg4_15 A f hi hkn hri hrk h3 h4 h6 (by have := p1.2 ⟨h3, h4⟩; omega)
          | false =>
            exact reg4_15b A f hi hkn hri hrk h3 h4 h6 fun e => by
              have := (p1.1 (by omega)).2
              rw [h4] at this; cases this
        | false =>
          exact reg4_15c A f hi hkn hri hrk h3 fun e => by
            have := (p1.1 (by omega)).1
            rw [h3] at this; cases this
      obtain ⟨L', k1, k2⟩ := key
      rw [evD_free (by rfl) (by rfl) (fun kn => (R4_eq _ _ _ _ _ _ _ _ kn).trans (k1 kn)), k2]
    simp (disch := first | omega | (simp only [List.length_append, List.length_cons, List.length_nil, List.length_set, List.length_map, List.length_replicate, List.length_range, rowB_len, refs_len, put_len, rowI_len]; omega)) only [go_sem, ↓reduceIte, Nat.reduceEqDiff, Nat.reduceAdd, Nat.reduceMul, Nat.reduceSub, Nat.reduceLT, Nat.reduceLeDiff, Nat.reduceGT, Int.reduceLT, Int.reduceLE, Int.reduceEq, Int.reduceAdd, Int.reduceNeg, Int.reduceToNat, String.reduceEq, Bool.not_eq_true, Bool.false_eq_true, if_true, if_false, reduceCtorEq, not_true_eq_false, not_false_eq_true, decide_true, decide_false, and_self, true_or, or_true, false_or, or_false, false_and, and_false, ne_eq, Bool.or_true, Bool.true_or, Bool.or_false, Bool.false_or, if_pos, if_neg, decide_eq_true, decide_eq_false, unf b4_13.eq_1, unf b4_14.eq_1, unf b4_16.eq_1, hreg, hcn, hw]

theorem loop4_11 (A : Nat → Nat) (f : Nat → Nat → Bool) (hrow : ∀ i, i < n → (os ++ [.row 0 (rowI n A)])[1 + i]? = some (.row 0 (rowB n (f i))))
    (hA : ∀ a b, a < n → b < n → (A a = A b ↔ f a b = true ∧ f b a = true) ∧ (f a b = true → A b ≤ A a)) : ∀ (m i : Nat), i + m = n →
    catchE (It T b4_11 [0, 4, 5, 10] none [(0, vL calls), (4, .list .shared 1 (refs n fun j => 1 + j)), (5, .ref os.length 0 0 n), (10, .int .i64 i)] ⟨os ++ [.row 0 (rowI n A)], none⟩) 4 =
      some (.nrm, [(0, vL calls), (4, .list .shared 1 (refs n fun j => 1 + j)), (5, .ref os.length 0 0 n), (10, .int .i64 n), (87, .bool false)], ⟨os ++ [.row 0 (rowI n A)], none⟩) := by
  intro m
  induction m with
  | zero =>
    intro i hi
    rw [It_step]
    obtain rfl : i = n := by omega
    simp (disch := first | omega | (simp only [List.length_append, List.length_cons, List.length_nil, List.length_set, List.length_map, List.length_replicate, List.length_range, rowB_len, refs_len, put_len, rowI_len]; omega)) only [go_sem, ↓reduceIte, Nat.reduceEqDiff, Nat.reduceAdd, Nat.reduceMul, Nat.reduceSub, Nat.reduceLT, Nat.reduceLeDiff, Nat.reduceGT, Int.reduceLT, Int.reduceLE, Int.reduceEq, Int.reduceAdd, Int.reduceNeg, Int.reduceToNat, String.reduceEq, Bool.not_eq_true, Bool.false_eq_true, if_true, if_false, reduceCtorEq, not_true_eq_false, not_false_eq_true, decide_true, decide_false, and_self, true_or, or_true, false_or, or_false, false_and, and_false, ne_eq, Bool.or_true, Bool.true_or, Bool.or_false, Bool.false_or, if_pos, if_neg, decide_eq_true, decide_eq_false, unf b4_11.eq_1, hcn]
  | succ m ih =>
    intro i hi
    have hin : i < n := by omega
    have hw : IntKind.wrap .i64 ((i : Int) + 1) = ((i + 1 : Nat) : Int) := by rw [wrap_id] <;> omega
    have h1 := loop4_13 hcn hn A f hrow hin hA n 0 (by omega)
    rw [show ((0 : Nat) : Int) = 0 from rfl] at h1
    have h2 := ih (i + 1) (by omega)
    rw [It_step, ← h2]
    simp (disch := first | omega | (simp only [List.length_append, List.length_cons, List.length_nil, List.length_set, List.length_map, List.length_replicate, List.length_range, rowB_len, refs_len, put_len, rowI_len]; omega)) only [go_sem, ↓reduceIte, Nat.reduceEqDiff, Nat.reduceAdd, Nat.reduceMul, Nat.reduceSub, Nat.reduceLT, Nat.reduceLeDiff, Nat.reduceGT, Int.reduceLT, Int.reduceLE, Int.reduceEq, Int.reduceAdd, Int.reduceNeg, Int.reduceToNat, String.reduceEq, Bool.not_eq_true, Bool.false_eq_true, if_true, if_false, reduceCtorEq, not_true_eq_false, not_false_eq_true, decide_true, decide_false, and_self, true_or, or_true, false_or, or_false, false_and, and_false, ne_eq, Bool.or_true, Bool.true_or, Bool.or_false, Bool.false_or, if_pos, if_neg, decide_eq_true, decide_eq_false, unf b4_11.eq_1, unf b4_12.eq_1, unf b4_17.eq_1, hcn, hw, h1]
end ord

theorem call4 (calls : List (List Int)) (h : calls.length < 9223372036854775808) (hr : ∀ row, row ∈ calls → row.length < 9223372036854775808) : Am.Call T 4 [vL calls] ⟨[], none⟩ = some (.bool true, ⟨[], none⟩) := by
  rw [Call_fn (fn := f4) rfl rfl]
  have h7 := call7 ⟨[], none⟩ calls h
  cases hg : great 0 calls with
  | true =>
    rw [hg] at h7
    simp (disch := first | omega | (simp only [List.length_append, List.length_cons, List.length_nil, List.length_set, List.length_map, List.length_replicate, List.length_range, rowB_len, refs_len, put_len, rowI_len]; omega)) only [go_sem, ↓reduceIte, Nat.reduceEqDiff, Nat.reduceAdd, Nat.reduceMul, Nat.reduceSub, Nat.reduceLT, Nat.reduceLeDiff, Nat.reduceGT, Int.reduceLT, Int.reduceLE, Int.reduceEq, Int.reduceAdd, Int.reduceNeg, Int.reduceToNat, String.reduceEq, Bool.not_eq_true, Bool.false_eq_true, if_true, if_false, reduceCtorEq, not_true_eq_false, not_false_eq_true, decide_true, decide_false, and_self, true_or, or_true, false_or, or_false, false_and, and_false, ne_eq, Bool.or_true, Bool.true_or, Bool.or_false, Bool.false_or, if_pos, if_neg, decide_eq_true, decide_eq_false, unf b4.eq_1, f4, h7, call8, List.take_nil]
  | false =>
    rw [hg] at h7
    have hn := great_false _ _ hg
    have h9 := call9 [] calls (by omega) hr none
    obtain ⟨os, f, h12, q1, q2, q3⟩ := call12 ⟨[], none⟩ calls (by omega) hr
    simp only [List.length_nil, List.nil_append, Nat.zero_add] at h12 q2
    generalize hcs : run calls.length (Rb calls) calls.length (fun _ => false) = cs at h9
    obtain ⟨o1, o2, o3⟩ := order (pre_Rb (calls := calls)) hcs.symm
    obtain ⟨hl1, hl2⟩ := run_len (n := calls.length) (R := Rb calls) calls.length fun _ => false
    rw [hcs] at hl1 hl2
    have l1 := loop4_1 (os := os) rfl (by omega) o1 (fun c hc => by have := hl1 c hc; omega) cs [] rfl (fun _ => 0) 0 (by omega)
    have hA : ∀ a b, a < calls.length → b < calls.length → (asg 0 cs (fun _ => 0) a = asg 0 cs (fun _ => 0) b ↔ f a b = true ∧ f b a = true) ∧ (f a b = true → asg 0 cs (fun _ => 0) b ≤ asg 0 cs (fun _ => 0) a) := by
      intro a b ha hb
      have e1 : f a b = true ↔ Rb calls a b = true := (q3 a b ha hb).trans Rb_iff.symm
      have e2 : f b a = true ↔ Rb calls b a = true := (q3 b a hb ha).trans Rb_iff.symm
      rw [e1, e2]
      exact o3 a b ha hb
    have hrow : ∀ i, i < calls.length → (os ++ [.row 0 (rowI calls.length (asg 0 cs fun _ => 0))])[1 + i]? = some (.row 0 (rowB calls.length (f i))) := by
      intro i hi
      rw [List.getElem?_append_left (by omega)]
      exact q2 i hi
    have l2 := loop4_11 rfl (by omega) (asg 0 cs fun _ => 0) f hrow hA calls.length 0 (by omega)
    rw [o2] at l1
    simp only [List.length_nil, show ((0 : Nat) : Int) = 0 from rfl, Nat.zero_add] at l1 l2
    simp (disch := first | omega | (simp only [List.length_append, List.length_cons, List.length_nil, List.length_set, List.length_map, List.length_replicate, List.length_range, rowB_len, refs_len, put_len, rowI_len]; omega)) only [go_sem, ↓reduceIte, Nat.reduceEqDiff, Nat.reduceAdd, Nat.reduceMul, Nat.reduceSub, Nat.reduceLT, Nat.reduceLeDiff, Nat.reduceGT, Int.reduceLT, Int.reduceLE, Int.reduceEq, Int.reduceAdd, Int.reduceNeg, Int.reduceToNat, String.reduceEq, Bool.not_eq_true, Bool.false_eq_true, if_true, if_false, reduceCtorEq, not_true_eq_false, not_false_eq_true, decide_true, decide_false, and_self, true_or, or_true, false_or, or_false, false_and, and_false, ne_eq, Bool.or_true, Bool.true_or, Bool.or_false, Bool.false_or, if_pos, if_neg, decide_eq_true, decide_eq_false, unf b4.eq_1, unf b4_0.eq_1, unf b4_9.eq_1, unf b4_10.eq_1, unf b4_18.eq_1, f4, h7, h9, h12, l1, l2, call8, rowI_zero, under_rowI, mkSlice_row1, List.take_nil]
end Go.Proofs.G11
