/- Tables of sixty-four bits for functions of six variables, in plain words. -/
import Derived.Test.YtdddcofggemnkaaDoorBdd
import Derived.Test.YtdddcofggemnkaaDoorAmW
namespace Go.Bdd
set_option linter.all false
open Go.Am (andNot testBit_andNot andNot_le)

/-- A choice of variables below six, told by bits. -/
def chR (c : Nat) : Nat → Bool := fun v => decide (v < 6) && c.testBit v
def bitN (c : Nat) (v : Int) : Bool := decide (0 ≤ v) && decide (v < 6) && c.testBit v.toNat

theorem sem_six {f : BF} (hf : Gd 6 f) {ρ σ : Nat → Bool} (h : ∀ v, v < 6 → ρ v = σ v) : f.sem ρ = f.sem σ := by
  by_cases hn : f.nodes = []
  · simp only [BF.sem, hn, if_true]
  · obtain ⟨⟨_, h2, _, _⟩, _⟩ := hf.facts hn
    simp only [BF.sem, hn, if_false]
    have hl : 0 < f.nodes.length := List.length_pos_iff.2 hn
    have key : ∀ a, a < f.nodes.length + 2 → sem f.nodes a ρ = sem f.nodes a σ := by
      intro a
      induction a using Nat.strongRecOn with
      | _ a ih =>
        intro ha
        by_cases ha2 : 2 ≤ a
        · obtain ⟨n, hn⟩ := h2.wf.at ha2 ha
          have a1 := hn.lo
          have a2 := hn.hi
          rw [hn.sem, hn.sem, h _ (h2.top_lt hn), ih n.lo a1 (by omega), ih n.hi a2 (by omega)]
        · match a, ha2 with
          | 0, _ => rw [sem_zero, sem_zero]
          | 1, _ => rw [sem_one, sem_one]
          | a + 2, ha => omega
    exact key _ (by omega)

/-- The number of a choice. -/
def numR (ρ : Nat → Bool) : Nat := (ρ 0).toNat + 2 * ((ρ 1).toNat + 2 * ((ρ 2).toNat + 2 * ((ρ 3).toNat + 2 * ((ρ 4).toNat + 2 * (ρ 5).toNat))))
theorem numR_lt {ρ : Nat → Bool} : numR ρ < 64 := by
  have h := fun b : Bool => show b.toNat ≤ 1 by cases b <;> decide
  have h0 := h (ρ 0); have h1 := h (ρ 1); have h2 := h (ρ 2); have h3 := h (ρ 3); have h4 := h (ρ 4); have h5 := h (ρ 5)
  simp only [numR]; omega
theorem numR_bit {ρ : Nat → Bool} : ∀ v, v < 6 → (numR ρ).testBit v = ρ v := by
  intro v hv
  simp only [numR]
  match v, hv with
  | 0, _ => cases ρ 0 <;> cases ρ 1 <;> cases ρ 2 <;> cases ρ 3 <;> cases ρ 4 <;> cases ρ 5 <;> rfl
  | 1, _ => cases ρ 0 <;> cases ρ 1 <;> cases ρ 2 <;> cases ρ 3 <;> cases ρ 4 <;> cases ρ 5 <;> rfl
  | 2, _ => cases ρ 0 <;> cases ρ 1 <;> cases ρ 2 <;> cases ρ 3 <;> cases ρ 4 <;> cases ρ 5 <;> rfl
  | 3, _ => cases ρ 0 <;> cases ρ 1 <;> cases ρ 2 <;> cases ρ 3 <;> cases ρ 4 <;> cases ρ 5 <;> rfl
  | 4, _ => cases ρ 0 <;> cases ρ 1 <;> cases ρ 2 <;> cases ρ 3 <;> cases ρ 4 <;> cases ρ 5 <;> rfl
  | 5, _ => cases ρ 0 <;> cases ρ 1 <;> cases ρ 2 <;> cases ρ 3 <;> cases ρ 4 <;> cases ρ 5 <;> rfl
theorem chR_num {ρ : Nat → Bool} : ∀ v, v < 6 → chR (numR ρ) v = ρ v := fun v hv => by
  simp only [chR, numR_bit v hv, decide_eq_true hv, Bool.true_and]
theorem sem_num {f : BF} (hf : Gd 6 f) (ρ : Nat → Bool) : f.sem ρ = f.sem (chR (numR ρ)) := sem_six hf fun v hv => (chR_num v hv).symm

/-- A table tells of a function. -/
structure Tt (t : Nat) (f : BF) : Prop where
  gd : Gd 6 f
  lt : t < 18446744073709551616
  bit : ∀ c, c < 64 → t.testBit c = f.sem (chR c)

theorem tt_zero : Tt 0 ⟨[], false⟩ := ⟨⟨can_const, by simp⟩, by decide, fun c _ => by rw [sem_const]; simp⟩

theorem bit_eq {t u : Nat} (ht : t < 18446744073709551616) (hu : u < 18446744073709551616) (h : ∀ c, c < 64 → t.testBit c = u.testBit c) : t = u := by
  apply Nat.eq_of_testBit_eq
  intro i
  by_cases hi : i < 64
  · exact h i hi
  · have h1 : 2 ^ 64 ≤ 2 ^ i := Nat.pow_le_pow_right (by decide) (by omega)
    rw [Nat.testBit_lt_two_pow (show t < 2 ^ i by omega), Nat.testBit_lt_two_pow (show u < 2 ^ i by omega)]

/-- Two functions are one just if their tables are. -/
theorem Tt.same {t u : Nat} {f g : BF} (hf : Tt t f) (hg : Tt u g) : f = g ↔ t = u := by
  rw [same_iff hf.gd.toCan hg.gd.toCan]
  constructor
  · intro h
    exact bit_eq hf.lt hg.lt fun c hc => by rw [hf.bit c hc, hg.bit c hc, h]
  · rintro rfl ρ
    rw [sem_num hf.gd, sem_num hg.gd, ← hf.bit _ numR_lt, ← hg.bit _ numR_lt]

theorem or_lt {c v : Nat} (hc : c < 64) (hv : v < 6) : c ||| 2 ^ v < 64 := Nat.or_lt_two_pow (n := 6) hc (Nat.pow_lt_pow_right (by decide) hv)
theorem andNot_lt {c v : Nat} (hc : c < 64) : andNot c (2 ^ v) < 64 := Nat.lt_of_le_of_lt andNot_le hc
theorem chR_or {c v : Nat} (hv : v < 6) : chR (c ||| 2 ^ v) = upd (chR c) v true := by
  funext x
  simp only [chR, upd, Nat.testBit_or, Nat.testBit_two_pow]
  by_cases h : x = v
  · subst h; simp [hv]
  · rw [if_neg h, decide_eq_false (show ¬ v = x from fun e => h e.symm)]; simp
theorem chR_not {c v : Nat} : chR (andNot c (2 ^ v)) = upd (chR c) v false := by
  funext x
  simp only [chR, upd, testBit_andNot, Nat.testBit_two_pow]
  by_cases h : x = v
  · subst h; simp
  · rw [if_neg h, decide_eq_false (show ¬ v = x from fun e => h e.symm)]; simp

theorem Tt.or {t : Nat} {f : BF} (h : Tt t f) {c v : Nat} (hc : c < 64) (hv : v < 6) : t.testBit (c ||| 2 ^ v) = f.sem (upd (chR c) v true) := by
  rw [h.bit _ (or_lt hc hv), chR_or hv]
theorem Tt.not {t : Nat} {f : BF} (h : Tt t f) {c v : Nat} (hc : c < 64) : t.testBit (andNot c (2 ^ v)) = f.sem (upd (chR c) v false) := by
  rw [h.bit _ (andNot_lt hc), chR_not]

/-- A function hangs on a variable. -/
def Hg (f : BF) (v : Nat) : Prop := ∃ n, n ∈ f.nodes ∧ n.v = v
instance {f : BF} {v : Nat} : Decidable (Hg f v) := inferInstanceAs (Decidable (∃ n, n ∈ f.nodes ∧ n.v = v))
theorem Hg.lt {f : BF} (hf : Gd 6 f) {v : Nat} (h : Hg f v) : v < 6 := by
  obtain ⟨n, hn, rfl⟩ := h
  have hne : f.nodes ≠ [] := fun e => by rw [e] at hn; cases hn
  exact ((hf.facts hne).1).tb.low n hn

theorem Tt.hangs {t : Nat} {f : BF} (h : Tt t f) {v : Nat} (hv : v < 6) : Hg f v ↔ ∃ c, c < 64 ∧ t.testBit (c ||| 2 ^ v) ≠ t.testBit (andNot c (2 ^ v)) := by
  rw [Hg, vars_iff h.gd.toCan]
  constructor
  · rintro ⟨ρ, hρ⟩
    refine ⟨numR ρ, numR_lt, ?_⟩
    rw [h.or numR_lt hv, h.not numR_lt]
    intro e
    apply hρ
    have key : ∀ b, f.sem (upd ρ v b) = f.sem (upd (chR (numR ρ)) v b) := fun b => sem_six h.gd fun x hx => by
      simp only [upd]; split
      · rfl
      · rw [chR_num x hx]
    rw [key, key, e]
  · rintro ⟨c, hc, hd⟩
    rw [h.or hc hv, h.not hc] at hd
    exact ⟨_, hd⟩

theorem bitN_ch {c : Nat} {z : Int} (hz : 0 ≤ z) : bitN c z = chR c z.toNat := by
  simp only [bitN, chR, decide_eq_true hz, Bool.true_and]
  by_cases h : z < 6
  · rw [decide_eq_true h, decide_eq_true (by omega)]
  · rw [decide_eq_false h, decide_eq_false (by omega)]

theorem sem_hg {K : Nat} {f : BF} (hf : Can K f) {ρ σ : Nat → Bool} (h : ∀ v, Hg f v → ρ v = σ v) : f.sem ρ = f.sem σ := by
  by_cases hn : f.nodes = []
  · simp only [BF.sem, hn, if_true]
  · obtain ⟨⟨_, h2, _, _⟩, _⟩ := hf.facts hn
    simp only [BF.sem, hn, if_false]
    have hl : 0 < f.nodes.length := List.length_pos_iff.2 hn
    have key : ∀ a, a < f.nodes.length + 2 → sem f.nodes a ρ = sem f.nodes a σ := by
      intro a
      induction a using Nat.strongRecOn with
      | _ a ih =>
        intro ha
        by_cases ha2 : 2 ≤ a
        · obtain ⟨n, hn⟩ := h2.wf.at ha2 ha
          have a1 := hn.lo
          have a2 := hn.hi
          rw [hn.sem, hn.sem, h _ ⟨n, List.mem_of_getElem? hn.get, rfl⟩, ih n.lo a1 (by omega), ih n.hi a2 (by omega)]
        · match a, ha2 with
          | 0, _ => rw [sem_zero, sem_zero]
          | 1, _ => rw [sem_one, sem_one]
          | a + 2, ha => omega
    exact key _ (by omega)

/-- Variables may be renamed. -/
def RenOk (L : List Int) (f : BF) : Prop := (∀ v, Hg f v → ∃ y : Int, L[v]? = some y ∧ 0 ≤ y) ∧ ∀ v w, Hg f v → Hg f w → v ≠ w → L[v]? ≠ L[w]?
open Classical in
noncomputable def renS (L : List Int) (f : BF) (ρ : Nat → Bool) : Bool := if RenOk L f then f.sem fun v => ρ ((L[v]?).getD 0).toNat else true
theorem renS_ok {L : List Int} {f : BF} (h : RenOk L f) {ρ : Nat → Bool} : renS L f ρ = f.sem fun v => ρ ((L[v]?).getD 0).toNat := by unfold renS; rw [if_pos h]
theorem renS_not {L : List Int} {f : BF} (h : ¬ RenOk L f) {ρ : Nat → Bool} : renS L f ρ = true := by unfold renS; rw [if_neg h]
end Go.Bdd
