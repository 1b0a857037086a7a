/- An abstract machine for the part of Go that this program uses: a region whose order is open: the walk lifted. -/
import Derived.Test.YtdddcofggemnkaaDoorAmRegD
namespace Go.Am
set_option linter.all false
open Go Go.RowKit

/-- How many of the operations that may turn the memory are among those chosen. -/
def cntFrom (f : Nat → Bool) : Nat → List (IOper × Nat × Nat) → Nat
  | _, [] => 0
  | k, p :: ps => (if p.1.op.isEff && f k then 1 else 0) + cntFrom f (k + 1) ps

theorem cntFrom_le {f g : Nat → Bool} : ∀ (is : List (IOper × Nat × Nat)) (k : Nat), (∀ j p, is[j]? = some p → p.1.op.isEff = true → f (k + j) = true → g (k + j) = true) → cntFrom f k is ≤ cntFrom g k is := by
  intro is
  induction is with
  | nil => intro k _; exact Nat.le_refl _
  | cons p is ih =>
    intro k h
    have h1 := ih (k + 1) fun j q hq he hf => by
      have := h (j + 1) q (by simpa using hq) he
      rw [show k + (j + 1) = k + 1 + j by omega] at this
      exact this hf
    have h0 := h 0 p rfl
    simp only [Nat.add_zero] at h0
    simp only [cntFrom]
    cases he : p.1.op.isEff
    · simpa using h1
    · cases hf : f k
      · simp; omega
      · rw [h0 he hf]; simp; exact h1

theorem effCount_cons (p : IOper × Nat × Nat) (is : List (IOper × Nat × Nat)) : effCount (p :: is) = (if p.1.op.isEff then 1 else 0) + effCount is := by
  simp only [effCount, List.filter_cons]
  cases p.1.op.isEff <;> simp [Nat.add_comm]

theorem cntFrom_rank (t : Nat) : ∀ (is : List (IOper × Nat × Nat)) (k c : Nat), cntFrom (fun j => decide (c + effCount (is.take (j - k)) < t)) k is = min (t - c) (effCount is) := by
  intro is
  induction is with
  | nil => intro k c; simp [cntFrom, effCount]
  | cons p is ih =>
    intro k c
    simp only [cntFrom, Nat.sub_self, List.take_zero]
    have e0 : effCount ([] : List (IOper × Nat × Nat)) = 0 := rfl
    rw [e0, Nat.add_zero, effCount_cons]
    have h1 : cntFrom (fun j => decide (c + effCount ((p :: is).take (j - k)) < t)) (k + 1) is = cntFrom (fun j => decide ((c + if p.1.op.isEff then 1 else 0) + effCount (is.take (j - (k + 1))) < t)) (k + 1) is := by
      apply Nat.le_antisymm <;> refine cntFrom_le is (k + 1) fun j q hq he hf => ?_
      · simp only [decide_eq_true_eq] at hf ⊢
        rw [show k + 1 + j - k = j + 1 by omega, List.take_succ_cons, effCount_cons] at hf
        rw [show k + 1 + j - (k + 1) = j by omega]
        omega
      · simp only [decide_eq_true_eq] at hf ⊢
        rw [show k + 1 + j - k = j + 1 by omega, List.take_succ_cons, effCount_cons]
        rw [show k + 1 + j - (k + 1) = j by omega] at hf
        omega
    rw [h1, ih (k + 1) _]
    cases p.1.op.isEff
    · simp
    · simp only [Bool.true_and, decide_eq_true_eq, if_true]
      split <;> omega

theorem cntFrom_index (i : Nat) : ∀ (is : List (IOper × Nat × Nat)) (k : Nat), cntFrom (fun j => decide (j < k + i)) k is = effCount (is.take i) := by
  induction i with
  | zero =>
    intro is
    induction is with
    | nil => intro k; rfl
    | cons p is ih =>
      intro k
      simp only [cntFrom, List.take_zero, Nat.add_zero]
      have h1 : cntFrom (fun j => decide (j < k)) (k + 1) is ≤ cntFrom (fun j => decide (j < k + 1 + 0)) (k + 1) is := cntFrom_le is (k + 1) fun j q _ _ hf => by simp at hf ⊢; omega
      rw [ih (k + 1)] at h1
      simp only [List.take_zero] at h1
      have e0 : effCount ([] : List (IOper × Nat × Nat)) = 0 := rfl
      rw [e0] at h1 ⊢
      simp
      omega
  | succ i ihi =>
    intro is k
    cases is with
    | nil => rfl
    | cons p is =>
      simp only [cntFrom, List.take_succ_cons]
      rw [effCount_cons]
      have h1 : cntFrom (fun j => decide (j < k + (i + 1))) (k + 1) is = cntFrom (fun j => decide (j < k + 1 + i)) (k + 1) is := by
        rw [show k + (i + 1) = k + 1 + i by omega]
      rw [h1, ihi is (k + 1)]
      simp

theorem cntFrom_all {f : Nat → Bool} : ∀ (is : List (IOper × Nat × Nat)) (k : Nat), (∀ j, j < is.length → f (k + j) = true) → cntFrom f k is = effCount is := by
  intro is
  induction is with
  | nil => intro k _; rfl
  | cons p is ih =>
    intro k h
    rw [effCount_cons]
    simp only [cntFrom]
    have h0 := h 0 (by simp)
    simp only [Nat.add_zero] at h0
    rw [ih (k + 1) fun j hj => by rw [show k + 1 + j = k + (j + 1) by omega]; exact h (j + 1) (by simpa using hj), h0]
    simp

theorem cntFrom_insert {f : Nat → Bool} {i : Nat} : ∀ (is : List (IOper × Nat × Nat)) (k : Nat) (p : IOper × Nat × Nat), is[i]? = some p → f (k + i) = false → cntFrom (fun j => f j || decide (j = k + i)) k is = cntFrom f k is + (if p.1.op.isEff then 1 else 0) := by
  induction i with
  | zero =>
    intro is k p h hf
    cases is with
    | nil => simp at h
    | cons q is =>
      simp only [List.getElem?_cons_zero, Option.some.injEq] at h
      subst h
      simp only [cntFrom, Nat.add_zero] at hf ⊢
      have h1 : cntFrom (fun j => f j || decide (j = k)) (k + 1) is = cntFrom f (k + 1) is := by
        apply Nat.le_antisymm <;> refine cntFrom_le is (k + 1) fun j q _ _ hh => ?_
        · simp only [Bool.or_eq_true, decide_eq_true_eq] at hh
          rcases hh with hh | hh
          · exact hh
          · omega
        · simp [hh]
      rw [h1, hf]
      simp
      omega
  | succ i ih =>
    intro is k p h hf
    cases is with
    | nil => simp at h
    | cons q is =>
      simp only [cntFrom]
      have := ih is (k + 1) p (by simpa using h) (by rw [show k + 1 + i = k + (i + 1) by omega]; exact hf)
      rw [show k + 1 + i = k + (i + 1) by omega] at this
      rw [this]
      have hk : ¬ (k = k + (i + 1)) := by omega
      simp only [hk, decide_false, Bool.or_false]
      omega

section
variable {P : Program} {w0 : Base}

theorem contains_mem {l : List Nat} {t : Nat} (h : t ∈ l) : l.contains t = true := by simpa using h

theorem regD_sound {call : Nat → List AV → Mem → Option (AV × Mem)} (hcs : CallSound P w0 call) {r : Option Nat} {n nt : Nat} {ops : Array Oper} {Q : Exit → Act → World → Prop} {is : List (IOper × Nat × Nat)} {s : Sim} {M : Mem} {w : World} {L : Env} {a : Act} {L' : Env} {M' : Mem} {ms : List Mem} {tr : List (Env × AV × Bool)}
    (hok : okD P nt ops is = true) (hnt : nt ≤ a.tmps.size) (h : evOpsD call is L M [M] = some (L', M', ms, tr)) (hst : stayAll call ms is tr = true) (hL : LR s L a.tmps) (hm : MR w0 s M w)
    (hQ : ∀ s' a' w', s.le s' → LR s' L' a'.tmps → a'.tmps.size = a.tmps.size → a'.defers = a.defers → MR w0 s' M' w' → Q .normal a' w') :
    wpAnyIn (wide r) n P .any ops Q ops.size (Array.replicate ops.size false) a w := by
  simp only [okD, Bool.and_eq_true] at hok
  obtain ⟨⟨hops, hedge⟩, hpair⟩ := hok
  obtain ⟨t1, t2, t3, t4, t5, t6⟩ := trace_facts is L M [M] L' M' ms tr 0 rfl rfl h
  -- the operations, one by one
  have hlen : is.length = ops.size := by
    have key : ∀ (os : List Oper) (is : List IOper), okOpers P nt ops os is = true → os.length = is.length := by
      intro os
      induction os with
      | nil => intro is h; cases is <;> simp_all [okOpers]
      | cons o os ih => intro is h; cases is with
        | nil => simp [okOpers] at h
        | cons i is => simp only [okOpers, Bool.and_eq_true] at h; simp [ih is h.2]
    have := key _ _ hops
    simpa using this.symm
  have hop : ∀ (i : Nat) (o : Oper) (p : IOper × Nat × Nat), ops[i]? = some o → is[i]? = some p → okOper P nt ops o p.1 = true := by
    have key : ∀ (os : List Oper) (js : List IOper) (i : Nat) (o : Oper) (j : IOper), okOpers P nt ops os js = true → os[i]? = some o → js[i]? = some j → okOper P nt ops o j = true := by
      intro os
      induction os with
      | nil => intro js i o j _ h; simp at h
      | cons x os ih =>
        intro js i o j h h1 h2
        cases js with
        | nil => simp at h2
        | cons y js =>
          simp only [okOpers, Bool.and_eq_true] at h
          cases i with
          | zero => simp only [List.getElem?_cons_zero, Option.some.injEq] at h1 h2; subst h1; subst h2; exact h.1
          | succ i => exact ih js i o j h.2 (by simpa using h1) (by simpa using h2)
    intro i o p h1 h2
    exact key _ _ i o p.1 hops (by simpa using h1) (by simp [h2])
  have hpr : ∀ (p q : IOper × Nat × Nat) (i j : Nat), is[i]? = some p → is[j]? = some q →
      (i < j → (p.1.op.isEff = true → q.1.op.isEff = true → ((befs ops.toList).getD j 0).testBit i = true) ∧ (meets p.1 q.1 = true → ((befs ops.toList).getD j 0).testBit i = true)) ∧
      (q.1.op.looks = true → q.2.1 ≤ effCount (is.take j) ∧ effCount (is.take j) < q.2.1 + q.2.2) ∧
      (q.1.op.looks = true → p.1.op.isEff = true → (effCount (is.take i) < q.2.1 → ((befs ops.toList).getD j 0).testBit i = true) ∧ (q.2.1 + q.2.2 ≤ effCount (is.take i) + 1 → ((befs ops.toList).getD i 0).testBit j = true)) := by
    intro p q i j hi hj
    have h1 := List.all_eq_true.1 hpair (q, j) (by rw [List.mem_zipIdx_iff_getElem?]; exact hj)
    have h2 := List.all_eq_true.1 h1 (p, i) (by rw [List.mem_zipIdx_iff_getElem?]; exact hi)
    simp only [Bool.and_eq_true, Bool.or_eq_true, Bool.not_eq_true', decide_eq_false_iff_not, decide_eq_true_eq, Bool.and_eq_false_iff] at h2
    obtain ⟨⟨g1, g2⟩, g3⟩ := h2
    refine ⟨fun hlt => ?_, fun hl => ?_, fun hl he => ?_⟩
    · rcases g1 with g1 | ⟨g1, g4⟩
      · exact absurd hlt g1
      · refine ⟨fun e1 e2 => ?_, fun e1 => ?_⟩
        · rcases g1 with (g1 | g1) | g1
          · rw [e1] at g1; cases g1
          · rw [e2] at g1; cases g1
          · exact g1
        · rcases g4 with g4 | g4
          · rw [e1] at g4; cases g4
          · exact g4
    · rcases g2 with g2 | g2
      · rw [hl] at g2; cases g2
      · exact g2
    · rcases g3 with (g3 | g3) | ⟨g3, g4⟩
      · rw [hl] at g3; cases g3
      · rw [he] at g3; cases g3
      · refine ⟨fun e => ?_, fun e => ?_⟩
        · rcases g3 with g3 | g3
          · exact absurd e g3
          · exact g3
        · rcases g4 with g4 | g4
          · exact absurd e g4
          · exact g4
  have hback : ∀ (i : Nat) (o : Oper), ops[i]? = some o → ∀ e ∈ o.after.toList, Region.binds .any e = true → e.on < i := by
    intro i o hi e he hb
    have h1 := List.all_eq_true.1 hedge (o, i) (by rw [List.mem_zipIdx_iff_getElem?]; simpa using hi)
    have h2 := List.all_eq_true.1 h1 e he
    simp only [Bool.or_eq_true, Bool.not_eq_true', decide_eq_true_eq] at h2
    rcases h2 with h2 | h2
    · rw [hb] at h2; cases h2
    · exact h2
  have hent : ∀ (i : Nat) (p : IOper × Nat × Nat) (Li : Env) (v : AV) (ran : Bool), is[i]? = some p → tr[i]? = some (Li, v, ran) → (entries is tr)[i]? = some (p.1.dst, v) := by
    intro i p Li v ran hi ht
    simp only [entries, List.getElem?_map]
    rw [List.getElem?_zip_eq_some (z := (p, (Li, v, ran))).2 ⟨hi, ht⟩]
    rfl
  have hent2 : ∀ (j : Nat) (d : Option Nat) (v : AV), (entries is tr)[j]? = some (d, v) → ∃ p, is[j]? = some p ∧ p.1.dst = d := by
    intro j d v hj
    simp only [entries, List.getElem?_map, Option.map_eq_some_iff] at hj
    obtain ⟨x, hx, hx2⟩ := hj
    have := List.getElem?_zip_eq_some.1 hx
    exact ⟨x.1, this.1, (Prod.mk.inj hx2).1⟩
  -- the walk over whatever order
  have main : ∀ (fuel : Nat) (listed : Array Bool) (s1 : Sim) (a1 : Act) (w1 : World), listed.size = ops.size → (is.zipIdx.filter fun p => !listed.getD p.2 false).length ≤ fuel →
      (∀ (j : Nat) (o : Oper), ops[j]? = some o → listed.getD j false = true → ∀ e ∈ o.after.toList, Region.binds .any e = true → listed.getD e.on false = true) →
      s.le s1 → LR s1 (envS (fun j => listed.getD j false) 0 (entries is tr) L) a1.tmps → a1.tmps.size = a.tmps.size → a1.defers = a.defers →
      (∃ Mk, ms[cntFrom (fun j => listed.getD j false) 0 is]? = some Mk ∧ MR w0 s1 Mk w1) → wpAnyIn (wide r) n P .any ops Q fuel listed a1 w1 := by
    -- at the end
    have fin : ∀ (listed : Array Bool) (s1 : Sim) (a1 : Act) (w1 : World), listed.size = ops.size → s.le s1 → LR s1 (envS (fun j => listed.getD j false) 0 (entries is tr) L) a1.tmps → a1.tmps.size = a.tmps.size → a1.defers = a.defers →
        (∃ Mk, ms[cntFrom (fun j => listed.getD j false) 0 is]? = some Mk ∧ MR w0 s1 Mk w1) → (∀ j, j < ops.size → listed.getD j false = true) → Q .normal a1 w1 := by
      intro listed s1 a1 w1 hsz hs hLs hsize hdef ⟨Mk, hk, hmk⟩ hall
      rw [cntFrom_all is 0 fun j hj => by rw [Nat.zero_add]; exact hall j (by omega)] at hk
      rw [Nat.zero_add] at t2
      rw [t2] at hk
      simp only [Option.some.injEq] at hk
      subst hk
      refine hQ s1 a1 w1 hs (fun t v ht => hLs t v ?_) hsize hdef hmk
      rw [t5 0] at ht
      rw [← ht]
      refine envS_congr _ 0 _ _ rfl fun j v hj => ?_
      obtain ⟨p, hp, _⟩ := hent2 j _ v hj
      have := (List.getElem?_eq_some_iff.1 hp).1
      rw [Nat.zero_add]
      exact hall j (by omega)
    -- who may come up, as long as not all have been
    have some_ready : ∀ (listed : Array Bool), listed.size = ops.size → (∀ (j : Nat) (o : Oper), ops[j]? = some o → listed.getD j false = true → ∀ e ∈ o.after.toList, Region.binds .any e = true → listed.getD e.on false = true) →
        Region.ready .any ops listed = [] → ∀ j, j < ops.size → listed.getD j false = true := by
      intro listed hsz hcl hr j
      induction j using Nat.strongRecOn with
      | _ j ih =>
        intro hj
        cases hb : listed.getD j false with
        | true => rfl
        | false =>
          exfalso
          have hmem : j ∈ Region.ready .any ops listed := by
            unfold Region.ready
            rw [List.mem_filter]
            refine ⟨List.mem_range.2 hj, ?_⟩
            have h1 : listed.getD j true = false := by
              have hlt : j < listed.size := by omega
              simp only [Array.getD, hlt, dif_pos] at hb ⊢
              exact hb
            rw [h1]
            simp only [Bool.not_false, Bool.true_and, Array.getElem?_eq_getElem hj, Option.map_some, Option.getD_some]
            rw [Array.all_eq_true]
            intro q hq
            have he : ops[j].after[q] ∈ ops[j].after.toList := by simp
            cases hbb : Region.binds .any ops[j].after[q] with
            | false => rfl
            | true =>
              have hlt := hback j _ (Array.getElem?_eq_getElem hj) _ he hbb
              simp only [Bool.not_true, Bool.false_or]
              exact ih _ hlt (by omega)
          rw [hr] at hmem
          cases hmem
    intro fuel
    induction fuel with
    | zero =>
      intro listed s1 a1 w1 hsz hf hcl hs hLs hsize hdef hM
      have hall : ∀ j, j < ops.size → listed.getD j false = true := by
        intro j hj
        cases hb : listed.getD j false with
        | true => rfl
        | false =>
          exfalso
          have hjl : j < is.length := by omega
          have : (is[j], j) ∈ is.zipIdx.filter fun p => !listed.getD p.2 false := by
            rw [List.mem_filter]
            exact ⟨by rw [List.mem_zipIdx_iff_getElem?]; exact List.getElem?_eq_getElem hjl, by simp only; rw [hb]; rfl⟩
          have h0 : (is.zipIdx.filter fun p => !listed.getD p.2 false) = [] := List.eq_nil_of_length_eq_zero (by omega)
          rw [h0] at this
          cases this
      refine ⟨?_, fin listed s1 a1 w1 hsz hs hLs hsize hdef hM hall⟩
      apply List.eq_nil_iff_forall_not_mem.2
      intro j hj
      unfold Region.ready at hj
      rw [List.mem_filter, List.mem_range] at hj
      have h1 := hall j hj.1
      have hlt : j < listed.size := by omega
      have h2 : listed.getD j true = true := by
        simp only [Array.getD, hlt, dif_pos] at h1 ⊢
        exact h1
      rw [h2] at hj
      simp at hj
    | succ fuel ih =>
      intro listed s1 a1 w1 hsz hf hcl hs hLs hsize hdef hM
      refine ⟨fun hr => fin listed s1 a1 w1 hsz hs hLs hsize hdef hM (some_ready listed hsz hcl hr), fun i hi => ?_⟩
      unfold Region.ready at hi
      rw [List.mem_filter, List.mem_range] at hi
      obtain ⟨hilt, hi2⟩ := hi
      have hil : i < is.length := by omega
      have hio : ops[i]? = some ops[i] := Array.getElem?_eq_getElem hilt
      have hip : is[i]? = some is[i] := List.getElem?_eq_getElem hil
      have hit : i < tr.length := by omega
      generalize ho : ops[i] = o at hio
      generalize hp : is[i] = p at hip
      obtain ⟨Li, v, ran⟩ : Env × AV × Bool := tr[i]
      have htr : ∃ Li v ran, tr[i]? = some (Li, v, ran) := ⟨tr[i].1, tr[i].2.1, tr[i].2.2, List.getElem?_eq_getElem hit⟩
      clear Li v ran
      obtain ⟨Li, v, ran, htr⟩ := htr
      have hnl : listed.getD i false = false := by
        have hlt : i < listed.size := by omega
        have h1 : listed.getD i true = false := by
          cases hb : listed.getD i true with
          | false => rfl
          | true => rw [hb] at hi2; simp at hi2
        simp only [Array.getD, hlt, dif_pos] at h1 ⊢
        exact h1
      have hin : ∀ e ∈ o.after.toList, Region.binds .any e = true → listed.getD e.on false = true := by
        intro e he hb
        simp only [Bool.and_eq_true, hio, Option.map_some, Option.getD_some] at hi2
        have h1 := hi2.2
        rw [Array.all_eq_true] at h1
        obtain ⟨q, hq, rfl⟩ := List.mem_iff_getElem.1 he
        have := h1 q (by simpa using hq)
        simp only [Array.getElem_toList] at hb ⊢
        rw [hb] at this
        simpa using this
      have hcl' : ∀ (j : Nat) (o : Oper), ops.toList[j]? = some o → listed.getD j false = true → ∀ e ∈ o.after.toList, Region.binds .any e = true → listed.getD e.on false = true := fun j o hj => hcl j o (by simpa using hj)
      have ahead : ∀ j, ((befs ops.toList).getD i 0).testBit j = true → listed.getD j false = true := befs_closed (S := fun j => listed.getD j false) hcl' i o (by simpa using hio) hin
      have behind : ∀ j, j < ops.size → ((befs ops.toList).getD j 0).testBit i = true → listed.getD j false = false := by
        intro j hj hb
        cases hbj : listed.getD j false with
        | false => rfl
        | true =>
          have hjo : ops[j]? = some ops[j] := Array.getElem?_eq_getElem hj
          have := befs_closed (S := fun j => listed.getD j false) hcl' j ops[j] (by simp) (hcl j _ hjo hbj) i hb
          rw [hnl] at this
          cases this
      obtain ⟨f1, f2, f3, Mi, Mi1, f4, f5, f6, f7⟩ := t6 i p Li v ran hip htr
      rw [Nat.zero_add] at f4 f5
      -- what it reads is as in the text's order
      have hread : ∀ t, t ∈ p.1.reads → (envS (fun j => listed.getD j false) 0 (entries is tr) L).get t = Li.get t := by
        intro t ht
        have e1 := f2 0
        conv => rhs; rw [e1]
        refine envS_congr _ 0 _ _ rfl fun j u hj => ?_
        obtain ⟨q, hq, hqd⟩ := hent2 j _ u hj
        have hjlt := (List.getElem?_eq_some_iff.1 hq).1
        simp only [Nat.zero_add]
        rcases Nat.lt_trichotomy j i with hlt | rfl | hlt
        · rw [decide_eq_true hlt]
          refine ahead j ((hpr q p j i hq hip).1 hlt |>.2 ?_)
          simp only [meets, hqd, Bool.or_eq_true]
          exact .inl (.inl (contains_mem ht))
        · rw [hnl]; simp
        · rw [show decide (j < i) = false by simp; omega]
          refine behind j (by omega) ((hpr p q i j hip hq).1 hlt |>.2 ?_)
          simp only [meets, hqd, Bool.or_eq_true]
          exact .inr (contains_mem ht)
      have hg : guardOk (envS (fun j => listed.getD j false) 0 (entries is tr) L) p.1.guard = some ran := by
        rw [← f1]
        cases hgd : p.1.guard with
        | none => rfl
        | some tw =>
          obtain ⟨t, b⟩ := tw
          simp only [guardOk]
          rw [hread t (by simp [IOper.reads, hgd])]
      have hev : ∀ m, evOp call (envS (fun j => listed.getD j false) 0 (entries is tr) L) m p.1.op = evOp call Li m p.1.op := fun m => evOp_congr fun t ht => hread t (by simp [IOper.reads, ht])
      obtain ⟨Mk, hMk, hmk⟩ := hM
      -- the memory that it meets
      have hmem : ∃ Mn, (ran = true → evOp call (envS (fun j => listed.getD j false) 0 (entries is tr) L) Mk p.1.op = some (v, Mn)) ∧ (ran = false → Mn = Mk) ∧ ms[cntFrom (fun j => listed.getD j false) 0 is + (if p.1.op.isEff then 1 else 0)]? = some Mn := by
        cases he : p.1.op.isEff with
        | true =>
          have hcount : cntFrom (fun j => listed.getD j false) 0 is = effCount (is.take i) := by
            rw [← cntFrom_index i is 0]
            apply Nat.le_antisymm <;> refine cntFrom_le is 0 fun j q hq hqe hf => ?_
            · simp only [Nat.zero_add, decide_eq_true_eq] at hf ⊢
              rcases Nat.lt_trichotomy j i with h | h | h
              · exact h
              · subst h; rw [hnl] at hf; cases hf
              · have hjlt := (List.getElem?_eq_some_iff.1 hq).1
                have := behind j (by omega) ((hpr p q i j hip hq).1 h |>.1 he hqe)
                rw [this] at hf; cases hf
            · simp only [Nat.zero_add, decide_eq_true_eq] at hf ⊢
              exact ahead j ((hpr q p j i hq hip).1 hf |>.1 hqe he)
          rw [hcount] at hMk ⊢
          rw [f4] at hMk
          simp only [Option.some.injEq] at hMk
          subst hMk
          refine ⟨Mi1, fun hr => by rw [hev]; exact f7 hr, fun hr => f6 hr, ?_⟩
          have e5 : effCount (is.take (i + 1)) = effCount (is.take i) + 1 := by
            rw [List.take_succ_eq_append_getElem hil, hp]
            simp [effCount, he]
          rw [e5] at f5
          simpa using f5
        | false =>
          simp only [Bool.false_eq_true, if_false, Nat.add_zero]
          refine ⟨Mk, fun hr => ?_, fun _ => rfl, hMk⟩
          rw [hev]
          cases hlk : p.1.op.looks with
          | false => exact evOp_pure he hlk (f7 hr)
          | true =>
            subst hr
            have hstay := stayAll_at is tr i p Li v hst hip htr hlk
            obtain ⟨g1, g2⟩ := (hpr p p i i hip hip).2.1 hlk
            have hlo : p.2.1 ≤ cntFrom (fun j => listed.getD j false) 0 is := by
              have h1 := cntFrom_rank p.2.1 is 0 0
              have htot : p.2.1 ≤ effCount is := by
                refine Nat.le_trans g1 ?_
                have : effCount is = effCount (is.take i) + effCount (is.drop i) := by
                  conv => lhs; rw [← List.take_append_drop i is]
                  simp only [effCount, List.filter_append, List.length_append]
                omega
              have h2 : cntFrom (fun j => decide (0 + effCount (is.take (j - 0)) < p.2.1)) 0 is ≤ cntFrom (fun j => listed.getD j false) 0 is := cntFrom_le is 0 fun j q hq hqe hf => by
                simp only [Nat.zero_add, Nat.sub_zero, decide_eq_true_eq] at hf ⊢
                exact ahead j (((hpr q p j i hq hip).2.2 hlk hqe).1 hf)
              rw [h1] at h2
              omega
            have hhi : cntFrom (fun j => listed.getD j false) 0 is < p.2.1 + p.2.2 := by
              have h1 := cntFrom_rank (p.2.1 + p.2.2 - 1) is 0 0
              have h2 : cntFrom (fun j => listed.getD j false) 0 is ≤ cntFrom (fun j => decide (0 + effCount (is.take (j - 0)) < p.2.1 + p.2.2 - 1)) 0 is := cntFrom_le is 0 fun j q hq hqe hf => by
                simp only [Nat.zero_add, Nat.sub_zero, decide_eq_true_eq] at hf ⊢
                rcases Nat.lt_or_ge (effCount (is.take j)) (p.2.1 + p.2.2 - 1) with h | h
                · exact h
                · have hjlt := (List.getElem?_eq_some_iff.1 hq).1
                  have := behind j (by omega) (((hpr q p j i hq hip).2.2 hlk hqe).2 (by omega))
                  rw [this] at hf; cases hf
              rw [h1] at h2
              omega
            obtain ⟨m, m', q1, q2⟩ := stays_at p.2.2 p.2.1 _ hstay hlo hhi
            rw [hMk] at q1
            simp only [Option.some.injEq] at q1
            subst q1
            have := evOp_same he q2
            subst this
            exact q2
      obtain ⟨Mn, hrun, hskip, hMn⟩ := hmem
      have hokp := okOper_parts (hop i o p hio hip)
      obtain ⟨o1, o2, o3, o4⟩ := hokp
      -- what is behind it
      have next : ∀ (s2 : Sim) (w2 : World) (u : Value), s1.le s2 → MR w0 s2 Mn w2 → VR s2 v u → wpAnyIn (wide r) n P .any ops Q fuel (listed.setIfInBounds i true) (a1.put p.1.dst u) w2 := by
        intro s2 w2 u hle hm2 hv
        have hgetD : ∀ j, (listed.setIfInBounds i true).getD j false = (listed.getD j false || decide (j = i)) := by
          intro j
          have hlt : i < listed.size := by omega
          by_cases e : j = i
          · subst e; simp [Array.getD, hlt]
          · rw [Array.getD_eq_getD_getElem?, Array.getElem?_setIfInBounds_ne (by omega), ← Array.getD_eq_getD_getElem?]
            simp [e]
        have hfun : (fun j => (listed.setIfInBounds i true).getD j false) = fun j => (listed.getD j false || decide (j = 0 + i)) := by
          funext j; rw [hgetD j, Nat.zero_add]
        refine ih (listed.setIfInBounds i true) s2 (a1.put p.1.dst u) w2 (by simpa using hsz) ?_ ?_ (hs.trans hle) ?_ (by rw [put_size]; exact hsize) (by rw [put_defers]; exact hdef) ?_
        · -- one less is left
          have hsub : (is.zipIdx.filter fun p => !(listed.setIfInBounds i true).getD p.2 false).length < (is.zipIdx.filter fun p => !listed.getD p.2 false).length := by
            have h1 : (is.zipIdx.filter fun p => !(listed.setIfInBounds i true).getD p.2 false) = (is.zipIdx.filter fun p => !listed.getD p.2 false).filter fun p => !decide (p.2 = i) := by
              rw [List.filter_filter]
              congr 1
              funext q
              rw [hgetD]
              cases listed.getD q.2 false <;> simp
            rw [h1]
            refine Nat.lt_of_le_of_ne (List.length_filter_le _ _) fun e => ?_
            have h2 := List.length_filter_eq_length_iff.1 e (p, i) (by
              rw [List.mem_filter]
              exact ⟨by rw [List.mem_zipIdx_iff_getElem?]; exact hip, by simp only; rw [hnl]; rfl⟩)
            simp at h2
          omega
        · intro j o' hj hlj e he hb
          rw [hgetD] at hlj ⊢
          simp only [Bool.or_eq_true, decide_eq_true_eq] at hlj ⊢
          rcases hlj with hlj | rfl
          · exact .inl (hcl j o' hj hlj e he hb)
          · rw [hio] at hj
            simp only [Option.some.injEq] at hj
            subst hj
            exact .inl (hin e he hb)
        · -- the environment
          have hL1 : LR s2 (pushL p.1.dst v (envS (fun j => listed.getD j false) 0 (entries is tr) L)) (a1.put p.1.dst u).tmps := (hLs.mono hle).push (fun t ht => by have := o3 t ht; omega) hv
          intro t x hx
          refine hL1 t x ?_
          rw [← hx, hfun, pushL_get]
          by_cases hd : p.1.dst = some t
          · rw [if_pos hd]
            refine (envS_last (entries is tr) 0 i L (by rw [hent i p Li v ran hip htr, hd]) (by simp) fun j u' hlt hj => ?_).symm
            obtain ⟨q, hq, hqd⟩ := hent2 j _ u' hj
            have hjlt := (List.getElem?_eq_some_iff.1 hq).1
            simp only [Nat.zero_add, Bool.or_eq_false_iff, decide_eq_false_iff_not]
            refine ⟨behind j (by omega) ((hpr p q i j hip hq).1 hlt |>.2 ?_), by omega⟩
            simp only [meets, hd, hqd, Bool.or_eq_true]
            exact .inl (.inr (by simp))
          · rw [if_neg hd]
            refine envS_congr _ 0 _ _ rfl fun j u' hj => ?_
            obtain ⟨q, hq, hqd⟩ := hent2 j _ u' hj
            have hne : j ≠ i := by
              rintro rfl
              rw [hip] at hq
              simp only [Option.some.injEq] at hq
              subst hq
              exact hd hqd
            simp [hne]
        · refine ⟨Mn, ?_, hm2⟩
          rw [hfun, cntFrom_insert is 0 p hip (by rw [Nat.zero_add]; exact hnl)]
          exact hMn
      -- the operation itself
      unfold wpOpIn
      simp only [hio]
      have hw := guard_run hLs o4 hg
      cases hr : ran with
      | true =>
        rw [if_pos (by rw [hw, hr])]
        refine op_sound hcs hmk hLs o1 (hrun hr) fun s2 w2 u g1 g2 g3 => ?_
        rw [o2]
        exact next s2 w2 u g1 g2 g3
      | false =>
        rw [if_neg (by rw [hw, hr]; simp)]
        refine ⟨fun _ _ => trivial, ?_⟩
        rw [o2]
        have := f3 hr
        subst this
        rw [hskip hr] at next
        exact next s1 w1 undef (.refl s1) hmk (.tuple [] [] rfl (by simp))
  refine main ops.size (Array.replicate ops.size false) s a w (by simp) ?_ ?_ (.refl s) ?_ rfl rfl ⟨M, ?_, hm⟩
  · refine Nat.le_trans (List.length_filter_le _ _) ?_
    simp [hlen]
  · intro j o hj hl
    simp [Array.getD] at hl
  · intro t v ht
    refine hL t v ?_
    rw [← ht]
    exact (envS_none _ 0 L fun j u hj => by simp [Array.getD]).symm
  · have : cntFrom (fun j => (Array.replicate ops.size false).getD j false) 0 is = 0 := by
      have h1 := cntFrom_le (f := fun j => (Array.replicate ops.size false).getD j false) (g := fun j => decide (j < 0 + 0)) is 0 fun j p _ _ hf => by simp [Array.getD] at hf
      rw [cntFrom_index 0 is 0] at h1
      simpa [effCount] using h1
    rw [this, t3 0 (Nat.le_refl _)]
    rfl

end
end Go.Am
