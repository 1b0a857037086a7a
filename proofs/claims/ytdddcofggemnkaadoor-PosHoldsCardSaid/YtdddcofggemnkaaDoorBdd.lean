/- Boolean functions as diagrams, in plain words: tables of nodes, what a place means, that a table has one place for each function; functions are nodes in the order in which they are come to. -/
namespace Go.Bdd
set_option linter.all false

structure Nd where
  v : Nat
  lo : Nat
  hi : Nat
  deriving DecidableEq, Inhabited

/-- Behind all variables. -/
abbrev far : Nat := 9223372036854775807

def top (ns : List Nd) (a : Nat) : Nat := if a < 2 then far else match ns[a - 2]? with | some n => n.v | none => far

/-- What each place means, for a choice. -/
def vals (ρ : Nat → Bool) (acc : List Bool) : List Nd → List Bool
  | [] => acc
  | n :: ns => vals ρ (acc ++ [if ρ n.v then (acc[n.hi]?).getD false else (acc[n.lo]?).getD false]) ns

def sem (ns : List Nd) (a : Nat) (ρ : Nat → Bool) : Bool := ((vals ρ [false, true] ns)[a]?).getD false

theorem vals_app {ρ : Nat → Bool} {ms : List Nd} : ∀ {ns : List Nd} {acc : List Bool}, vals ρ acc (ns ++ ms) = vals ρ (vals ρ acc ns) ms := by
  intro ns
  induction ns with
  | nil => intro acc; rfl
  | cons n ns ih => intro acc; exact ih

theorem vals_len {ρ : Nat → Bool} : ∀ {ns : List Nd} {acc : List Bool}, (vals ρ acc ns).length = acc.length + ns.length := by
  intro ns
  induction ns with
  | nil => intro acc; simp [vals]
  | cons n ns ih => intro acc; simp only [vals, ih, List.length_append, List.length_cons, List.length_nil]; omega

theorem vals_get {ρ : Nat → Bool} : ∀ {ns : List Nd} {acc : List Bool} {i : Nat}, i < acc.length → (vals ρ acc ns)[i]? = acc[i]? := by
  intro ns
  induction ns with
  | nil => intro acc i h; rfl
  | cons n ns ih =>
    intro acc i h
    simp only [vals]
    rw [ih (by simp; omega), List.getElem?_append_left h]

theorem sem_app {ns ms : List Nd} {a : Nat} {ρ : Nat → Bool} (h : a < ns.length + 2) : sem (ns ++ ms) a ρ = sem ns a ρ := by
  simp only [sem, vals_app]
  rw [vals_get]
  rw [vals_len]; simp; omega

theorem sem_pre {ns ms : List Nd} (hp : ns <+: ms) {a : Nat} {ρ : Nat → Bool} (h : a < ns.length + 2) : sem ms a ρ = sem ns a ρ := by
  obtain ⟨t, rfl⟩ := hp
  exact sem_app h

theorem top_app {ns ms : List Nd} {a : Nat} (h : a < ns.length + 2) : top (ns ++ ms) a = top ns a := by
  simp only [top]
  split
  · rfl
  · rw [List.getElem?_append_left (by omega)]

theorem top_pre {ns ms : List Nd} (hp : ns <+: ms) {a : Nat} (h : a < ns.length + 2) : top ms a = top ns a := by
  obtain ⟨t, rfl⟩ := hp
  exact top_app h

theorem sem_zero {ns : List Nd} {ρ : Nat → Bool} : sem ns 0 ρ = false := by
  simp only [sem]; rw [vals_get (by simp)]; rfl
theorem sem_one {ns : List Nd} {ρ : Nat → Bool} : sem ns 1 ρ = true := by
  simp only [sem]; rw [vals_get (by simp)]; rfl

theorem sem_snoc {ns : List Nd} {n : Nd} {ρ : Nat → Bool}   : sem (ns ++ [n]) (ns.length + 2) ρ = if ρ n.v then sem ns n.hi ρ else sem ns n.lo ρ := by
  simp only [sem, vals_app, vals]
  have : (vals ρ [false, true] ns).length = ns.length + 2 := by rw [vals_len]; simp; omega
  rw [List.getElem?_append_right (by omega), this, Nat.sub_self]
  rfl

/-- A node may stand behind nodes. -/
structure Fit (ns : List Nd) (n : Nd) : Prop where
  lo : n.lo < ns.length + 2
  hi : n.hi < ns.length + 2
  ne : n.lo ≠ n.hi
  vlo : n.v < top ns n.lo
  vhi : n.v < top ns n.hi
  vf : n.v < far

/-- A table: nodes behind what they lead to, each once. -/
inductive WF : List Nd → Prop
  | nil : WF []
  | snoc {ns n} : WF ns → Fit ns n → n ∉ ns → WF (ns ++ [n])

theorem WF.get {ns : List Nd} (h : WF ns) : ∀ {i : Nat} {n : Nd}, ns[i]? = some n → Fit (ns.take i) n := by
  induction h with
  | nil => intro i n h; simp at h
  | @snoc ns m hw hf hn ih =>
    intro i n h
    by_cases hi : i < ns.length
    · rw [List.getElem?_append_left hi] at h
      rw [List.take_append_of_le_length (by omega)]
      exact ih h
    · have hil : i = ns.length := by
        have := (List.getElem?_eq_some_iff.1 h).1
        simp at this; omega
      subst hil
      rw [List.getElem?_append_right (Nat.le_refl _), Nat.sub_self] at h
      simp at h
      subst h
      simpa using hf

theorem WF.nodup {ns : List Nd} (h : WF ns) : ∀ {i j : Nat} {n : Nd}, ns[i]? = some n → ns[j]? = some n → i = j := by
  induction h with
  | nil => intro i j n h; simp at h
  | @snoc ns m hw hf hn ih =>
    intro i j n h1 h2
    have key : ∀ k, (ns ++ [m])[k]? = some n → (k < ns.length ∧ ns[k]? = some n) ∨ (k = ns.length ∧ n = m) := by
      intro k hk
      by_cases hlt : k < ns.length
      · rw [List.getElem?_append_left hlt] at hk; exact .inl ⟨hlt, hk⟩
      · have hkl : k = ns.length := by
          have := (List.getElem?_eq_some_iff.1 hk).1
          simp at this; omega
        subst hkl
        rw [List.getElem?_append_right (Nat.le_refl _), Nat.sub_self] at hk
        simp at hk
        exact .inr ⟨rfl, hk.symm⟩
    rcases key i h1 with ⟨a1, a2⟩ | ⟨a1, a2⟩ <;> rcases key j h2 with ⟨b1, b2⟩ | ⟨b1, b2⟩
    · exact ih a2 b2
    · subst b2; exact absurd (List.mem_of_getElem? a2) hn
    · subst a2; exact absurd (List.mem_of_getElem? b2) hn
    · omega

/-- A node of a table. -/
structure At (ns : List Nd) (a : Nat) (n : Nd) : Prop where
  a2 : 2 ≤ a
  al : a < ns.length + 2
  get : ns[a - 2]? = some n
  lo : n.lo < a
  hi : n.hi < a
  ne : n.lo ≠ n.hi
  tp : top ns a = n.v
  vlo : n.v < top ns n.lo
  vhi : n.v < top ns n.hi
  vf : n.v < far
  sem : ∀ ρ, sem ns a ρ = if ρ n.v then sem ns n.hi ρ else sem ns n.lo ρ

theorem WF.at {ns : List Nd} (h : WF ns) {a : Nat} (ha : 2 ≤ a) (hl : a < ns.length + 2) : ∃ n, At ns a n := by
  obtain ⟨n, hn⟩ : ∃ n, ns[a - 2]? = some n := ⟨_, List.getElem?_eq_getElem (by omega)⟩
  have hf := h.get hn
  have hlen : (ns.take (a - 2)).length = a - 2 := by simp; omega
  have h1 := hf.lo
  have h2 := hf.hi
  rw [hlen] at h1 h2
  have hpre : ns.take (a - 2) <+: ns := List.take_prefix _ _
  have hsp : ns = ns.take (a - 2) ++ [n] ++ ns.drop (a - 1) := by
    have h3 : a - 2 < ns.length := by omega
    have h4 := List.take_append_drop (a - 2) ns
    have h5 : ns.drop (a - 2) = n :: ns.drop (a - 1) := by
      rw [List.drop_eq_getElem_cons h3]
      congr 1
      · rw [List.getElem?_eq_getElem h3] at hn; simpa using hn
      · congr 1; omega
    rw [h5] at h4
    simpa using h4.symm
  refine ⟨n, ha, hl, hn, by omega, by omega, hf.ne, ?_, ?_, ?_, hf.vf, ?_⟩
  · simp only [top, hn]; rw [if_neg (by omega)]
  · rw [top_pre hpre (by rw [hlen]; omega)]; exact hf.vlo
  · rw [top_pre hpre (by rw [hlen]; omega)]; exact hf.vhi
  · intro ρ
    have h3 : sem ns a ρ = sem (ns.take (a - 2) ++ [n]) a ρ := by
      have hp2 : ns.take (a - 2) ++ [n] <+: ns := ⟨ns.drop (a - 1), hsp.symm⟩
      exact sem_pre hp2 (by simp; omega)
    have h4 := sem_snoc (ρ := ρ) (ns := ns.take (a - 2)) (n := n)
    rw [hlen, show a - 2 + 2 = a by omega] at h4
    rw [h3, h4, sem_pre hpre (by rw [hlen]; omega), sem_pre hpre (by rw [hlen]; omega)]

theorem top_le_far {ns : List Nd} (h : WF ns) {a : Nat} (hl : a < ns.length + 2) : top ns a ≤ far := by
  by_cases ha : 2 ≤ a
  · obtain ⟨n, hn⟩ := h.at ha hl
    rw [hn.tp]; exact Nat.le_of_lt hn.vf
  · simp only [top]; rw [if_pos (by omega)]; exact Nat.le_refl _

/-- What is before a place's variable makes no difference. -/
theorem sem_dep {ns : List Nd} (h : WF ns) : ∀ (a : Nat), a < ns.length + 2 → ∀ ρ σ : Nat → Bool, (∀ x, top ns a ≤ x → ρ x = σ x) → sem ns a ρ = sem ns a σ := by
  intro a
  induction a using Nat.strongRecOn with
  | _ a ih =>
    intro hl ρ σ hs
    by_cases ha : 2 ≤ a
    · obtain ⟨n, hn⟩ := h.at ha hl
      have h1 := hn.lo
      have h2 := hn.hi
      have h3 := hn.vlo
      have h4 := hn.vhi
      rw [hn.tp] at hs
      rw [hn.sem, hn.sem, hs _ (Nat.le_refl _), ih n.lo h1 (by omega) ρ σ (fun x hx => hs x (by omega)), ih n.hi h2 (by omega) ρ σ (fun x hx => hs x (by omega))]
    · match a, ha with
      | 0, _ => rw [sem_zero, sem_zero]
      | 1, _ => rw [sem_one, sem_one]
      | a + 2, ha => omega

def upd (ρ : Nat → Bool) (v : Nat) (b : Bool) : Nat → Bool := fun x => if x = v then b else ρ x
@[simp] theorem upd_self {ρ : Nat → Bool} {v : Nat} {b : Bool} : upd ρ v b v = b := by simp [upd]
theorem upd_ne {ρ : Nat → Bool} {v x : Nat} {b : Bool} (h : x ≠ v) : upd ρ v b x = ρ x := by simp [upd, h]
theorem sem_upd {ns : List Nd} (h : WF ns) {a : Nat} (hl : a < ns.length + 2) {v : Nat} (hv : v < top ns a) {ρ : Nat → Bool} {b : Bool} : sem ns a (upd ρ v b) = sem ns a ρ :=
  sem_dep h a hl _ _ fun x hx => upd_ne (by omega)

/-- ONE PLACE FOR EACH FUNCTION. -/
theorem canon {ns : List Nd} (h : WF ns) : ∀ (N a b : Nat), a ≤ N → b ≤ N → a < ns.length + 2 → b < ns.length + 2 → (∀ ρ, sem ns a ρ = sem ns b ρ) → a = b := by
  intro N
  induction N using Nat.strongRecOn with
  | _ N ih =>
    -- one whose variable is ahead of the other's
    have lt : ∀ a b, a ≤ N → a < ns.length + 2 → b < ns.length + 2 → (∀ ρ, sem ns a ρ = sem ns b ρ) → 2 ≤ a → top ns a < top ns b → False := by
      intro a b haN hla hlb hs ha ht
      obtain ⟨n, hn⟩ := h.at ha hla
      have h1 := hn.lo
      have h2 := hn.hi
      rw [hn.tp] at ht
      apply hn.ne
      refine ih (max n.lo n.hi) (by omega) n.lo n.hi (Nat.le_max_left _ _) (Nat.le_max_right _ _) (by omega) (by omega) fun ρ => ?_
      have e1 := hs (upd ρ n.v false)
      have e2 := hs (upd ρ n.v true)
      rw [sem_upd h hlb ht] at e1 e2
      rw [hn.sem, upd_self] at e1 e2
      simp only [Bool.false_eq_true, if_false, if_true] at e1 e2
      rw [sem_upd h (by omega) hn.vlo] at e1
      rw [sem_upd h (by omega) hn.vhi] at e2
      rw [e1, e2]
    intro a b haN hbN hla hlb hs
    by_cases ha : 2 ≤ a
    · by_cases h1 : top ns a < top ns b
      · exact (lt a b haN hla hlb hs ha h1).elim
      · by_cases hb : 2 ≤ b
        · by_cases h2 : top ns b < top ns a
          · exact (lt b a hbN hlb hla (fun ρ => (hs ρ).symm) hb h2).elim
          · obtain ⟨n, hn⟩ := h.at ha hla
            obtain ⟨m, hm⟩ := h.at hb hlb
            have hv : n.v = m.v := by have := hn.tp; have := hm.tp; omega
            have p1 := hn.lo
            have p2 := hn.hi
            have p3 := hm.lo
            have p4 := hm.hi
            have e : ∀ (x : Bool) (ρ : Nat → Bool), (if x then sem ns n.hi ρ else sem ns n.lo ρ) = if x then sem ns m.hi ρ else sem ns m.lo ρ := by
              intro x ρ
              have e1 := hs (upd ρ n.v x)
              rw [hn.sem, hm.sem, ← hv, upd_self, sem_upd h (by omega) hn.vlo, sem_upd h (by omega) hn.vhi, hv, sem_upd h (by omega) hm.vlo, sem_upd h (by omega) hm.vhi] at e1
              exact e1
            have e1 : n.lo = m.lo := ih (max n.lo m.lo) (by omega) _ _ (Nat.le_max_left _ _) (Nat.le_max_right _ _) (by omega) (by omega) fun ρ => by simpa using e false ρ
            have e2 : n.hi = m.hi := ih (max n.hi m.hi) (by omega) _ _ (Nat.le_max_left _ _) (Nat.le_max_right _ _) (by omega) (by omega) fun ρ => by simpa using e true ρ
            have hnm : n = m := by cases n; cases m; simp_all
            subst hnm
            have := h.nodup hn.get hm.get
            omega
        · have h3 : top ns b = far := by simp only [top]; rw [if_pos (by omega)]
          obtain ⟨n, hn⟩ := h.at ha hla
          have := hn.vf
          have := hn.tp
          omega
    · by_cases hb : 2 ≤ b
      · have h3 : top ns a = far := by simp only [top]; rw [if_pos (by omega)]
        obtain ⟨n, hn⟩ := h.at hb hlb
        have h4 := hn.vf
        have h5 := hn.tp
        exact (lt b a hbN hlb hla (fun ρ => (hs ρ).symm) hb (by omega)).elim
      · have := hs fun _ => false
        match a, b, ha, hb with
        | 0, 0, _, _ => rfl
        | 1, 1, _, _ => rfl
        | 0, 1, _, _ => rw [sem_zero, sem_one] at this; cases this
        | 1, 0, _, _ => rw [sem_zero, sem_one] at this; cases this
        | a + 2, _, ha, _ => omega
        | _, b + 2, _, hb => omega

/-! making nodes -/
def fnd (n : Nd) : Nat → List Nd → Option Nat
  | _, [] => none
  | k, x :: xs => if n = x then some k else fnd n (k + 1) xs

def mkN (ns : List Nd) (n : Nd) : Nat × List Nd :=
  if n.lo = n.hi then (n.lo, ns) else
  match fnd n 2 ns with
  | some k => (k, ns)
  | none => (ns.length + 2, ns ++ [n])

theorem fnd_none {n : Nd} : ∀ {ns : List Nd} {k : Nat}, fnd n k ns = none → n ∉ ns := by
  intro ns
  induction ns with
  | nil => intro k _ h; cases h
  | cons x xs ih =>
    intro k h
    simp only [fnd] at h
    split at h
    · cases h
    · rename_i hx
      intro hm
      rcases List.mem_cons.1 hm with h1 | h1
      · exact hx h1
      · exact ih h h1

theorem fnd_some {n : Nd} : ∀ {ns : List Nd} {k i : Nat}, fnd n k ns = some i → k ≤ i ∧ i < k + ns.length ∧ ns[i - k]? = some n := by
  intro ns
  induction ns with
  | nil => intro k i h; cases h
  | cons x xs ih =>
    intro k i h
    simp only [fnd] at h
    split at h
    · rename_i hx
      simp only [Option.some.injEq] at h
      subst h
      refine ⟨Nat.le_refl _, by simp, ?_⟩
      simp [hx]
    · obtain ⟨h1, h2, h3⟩ := ih h
      refine ⟨by omega, by simp; omega, ?_⟩
      rw [show i - k = (i - (k + 1)) + 1 by omega, List.getElem?_cons_succ]
      exact h3

/-- A table whose variables are below K. -/
structure Tb (K : Nat) (ns : List Nd) : Prop where
  wf : WF ns
  low : ∀ n, n ∈ ns → n.v < K

/-- How many nodes are behind a variable at most. -/
def cap (K t : Nat) : Nat := 2 ^ (K - t) - 1
theorem cap_mono {K t u : Nat} (h : t ≤ u) : cap K u ≤ cap K t := by
  have : 2 ^ (K - u) ≤ 2 ^ (K - t) := Nat.pow_le_pow_right (by omega) (by omega)
  simp only [cap]; omega
theorem cap_step {K t : Nat} (h : t < K) : cap K (t + 1) + cap K (t + 1) + 1 = cap K t := by
  have h1 : K - t = (K - (t + 1)) + 1 := by omega
  have h2 : 0 < 2 ^ (K - (t + 1)) := Nat.pow_pos (by omega)
  simp only [cap]
  rw [h1, Nat.pow_succ]
  omega
theorem cap_two {K t a b : Nat} (h : t < K) (ha : t < a) (hb : t < b) : cap K a + cap K b + 1 ≤ cap K t := by
  have h1 := cap_mono (K := K) (show t + 1 ≤ a by omega)
  have h2 := cap_mono (K := K) (show t + 1 ≤ b by omega)
  have h3 := cap_step h
  omega
theorem cap_le {K t : Nat} : cap K t ≤ 2 ^ K := by
  have h1 : 2 ^ (K - t) ≤ 2 ^ K := Nat.pow_le_pow_right (by omega) (by omega)
  have h2 : 0 < 2 ^ (K - t) := Nat.pow_pos (by omega)
  simp only [cap]; omega

theorem Tb.top_lt {K : Nat} {ns : List Nd} (h : Tb K ns) {a : Nat} {n : Nd} (hn : At ns a n) : n.v < K := h.low n (List.mem_of_getElem? hn.get)

/-- What a step of making may be told of: the place's meaning, and how many nodes are new at most. -/
structure Made (K : Nat) (ns ns' : List Nd) (r : Nat) (g : (Nat → Bool) → Bool) (t c : Nat) : Prop where
  tb : Tb K ns'
  pre : ns <+: ns'
  val : r < ns'.length + 2
  sem : ∀ ρ, sem ns' r ρ = g ρ
  tp : t ≤ top ns' r
  cnt : ns'.length ≤ ns.length + c

theorem Made.le {K : Nat} {ns ns' : List Nd} {r t c c' : Nat} {g : (Nat → Bool) → Bool} (h : Made K ns ns' r g t c) (hc : c ≤ c') : Made K ns ns' r g t c' := { h with cnt := Nat.le_trans h.cnt (by omega) }

theorem mkN_spec {K : Nat} {ns : List Nd} (h : Tb K ns) {n : Nd} (hv : n.v < K) (hl : n.lo < ns.length + 2) (hh : n.hi < ns.length + 2) (hvl : n.v < top ns n.lo) (hvh : n.v < top ns n.hi) :
    Made K ns (mkN ns n).2 (mkN ns n).1 (fun ρ => if ρ n.v then sem ns n.hi ρ else sem ns n.lo ρ) n.v 1 := by
  have hvf : n.v < far := Nat.lt_of_lt_of_le hvl (top_le_far h.wf hl)
  unfold mkN
  split
  · rename_i he
    refine ⟨h, List.prefix_refl _, hl, fun ρ => ?_, Nat.le_of_lt hvl, by simp⟩
    show sem ns n.lo ρ = _
    rw [he]; simp
  · rename_i hne
    split
    · rename_i k hk
      obtain ⟨h1, h2, h3⟩ := fnd_some hk
      obtain ⟨m, hm⟩ := h.wf.at h1 (by omega)
      have hmn : m = n := by have := hm.get; rw [h3] at this; simpa using this.symm
      subst hmn
      exact ⟨h, List.prefix_refl _, hm.al, hm.sem, by show _ ≤ top ns k; rw [hm.tp]; exact Nat.le_refl _, by simp⟩
    · rename_i hk
      have hf : Fit ns n := ⟨hl, hh, hne, hvl, hvh, hvf⟩
      refine ⟨⟨.snoc h.wf hf (fnd_none hk), fun m hm => ?_⟩, List.prefix_append _ _, by simp, fun ρ => sem_snoc, ?_, by simp⟩
      · rcases List.mem_append.1 hm with h1 | h1
        · exact h.low m h1
        · simp at h1; subst h1; exact hv
      · simp only [top]
        rw [if_neg (by omega), show ns.length + 2 - 2 = ns.length by omega, List.getElem?_append_right (Nat.le_refl _), Nat.sub_self]
        exact Nat.le_refl _

/-! rows of answers -/
def lookN {κ β : Type} [DecidableEq κ] (k : κ) : List (κ × β) → Option β
  | [] => none
  | (x, b) :: es => if k = x then some b else lookN k es
def aputN {κ β : Type} [DecidableEq κ] (k : κ) (b : β) : List (κ × β) → List (κ × β)
  | [] => [(k, b)]
  | (x, c) :: es => if k = x then (k, b) :: es else (x, c) :: aputN k b es
theorem lookN_aputN {κ β : Type} [DecidableEq κ] {k x : κ} {b : β} : ∀ {es : List (κ × β)}, lookN x (aputN k b es) = if x = k then some b else lookN x es := by
  intro es
  induction es with
  | nil => simp only [aputN, lookN]
  | cons e es ih =>
    obtain ⟨y, c⟩ := e
    simp only [aputN]
    split
    · rename_i h
      subst h
      simp only [lookN]
      split <;> rfl
    · rename_i h
      simp only [lookN, ih]
      by_cases h1 : x = y
      · subst h1
        rw [if_pos rfl, if_pos rfl, if_neg (fun e => h e.symm)]
      · rw [if_neg h1, if_neg h1]

/-! both -/
def waysN (ns : List Nd) (a v : Nat) : Nat × Nat :=
  if top ns a = v then match ns[a - 2]? with | some n => (n.lo, n.hi) | none => (a, a) else (a, a)

def bothF (en : Nat → Nat → Option Nat) : Nat → List Nd → List ((Nat × Nat) × Nat) → Nat → Nat → Option (List Nd × List ((Nat × Nat) × Nat) × Nat)
  | 0, _, _, _, _ => none
  | f + 1, ns, dn, a, b => match en a b with
    | some c => some (ns, dn, c)
    | none => match lookN (a, b) dn with
      | some c => some (ns, dn, c)
      | none => match bothF en f ns dn (waysN ns a (min (top ns a) (top ns b))).1 (waysN ns b (min (top ns a) (top ns b))).1 with
        | none => none
        | some (ns1, dn1, lo) => match bothF en f ns1 dn1 (waysN ns a (min (top ns a) (top ns b))).2 (waysN ns b (min (top ns a) (top ns b))).2 with
          | none => none
          | some (ns2, dn2, hi) => some ((mkN ns2 ⟨min (top ns a) (top ns b), lo, hi⟩).2, aputN (a, b) (mkN ns2 ⟨min (top ns a) (top ns b), lo, hi⟩).1 dn2, (mkN ns2 ⟨min (top ns a) (top ns b), lo, hi⟩).1)

def andE (a b : Nat) : Option Nat := if a = 0 ∨ b = 0 then some 0 else if a = 1 then some b else if b = 1 ∨ a = b then some a else none
def orE (a b : Nat) : Option Nat := if a = 1 ∨ b = 1 then some 1 else if a = 0 then some b else if b = 0 ∨ a = b then some a else none

/-- What ends tell. -/
structure EndOk (en : Nat → Nat → Option Nat) (op : Bool → Bool → Bool) : Prop where
  yes : ∀ {ns : List Nd} {a b c : Nat}, a < ns.length + 2 → b < ns.length + 2 → en a b = some c → c < ns.length + 2 ∧ (∀ ρ, sem ns c ρ = op (sem ns a ρ) (sem ns b ρ)) ∧ (top ns c = far ∨ top ns c = top ns a ∨ top ns c = top ns b)
  no : ∀ {a b : Nat}, en a b = none → 2 ≤ a ∧ 2 ≤ b

theorem top_const {ns : List Nd} {a : Nat} (h : a < 2) : top ns a = far := by simp only [top]; rw [if_pos h]

theorem andOk : EndOk andE (· && ·) where
  yes {ns a b c} ha hb h := by
    unfold andE at h
    split at h
    · rename_i h1
      simp only [Option.some.injEq] at h
      subst h
      refine ⟨by omega, fun ρ => ?_, .inl (top_const (by omega))⟩
      rcases h1 with rfl | rfl <;> simp [sem_zero]
    · split at h
      · simp only [Option.some.injEq] at h
        subst h
        rename_i h1; subst h1
        exact ⟨hb, fun ρ => by simp [sem_one], .inr (.inr rfl)⟩
      · split at h
        · rename_i h1
          simp only [Option.some.injEq] at h
          subst h
          refine ⟨ha, fun ρ => ?_, .inr (.inl rfl)⟩
          rcases h1 with rfl | rfl <;> simp [sem_one]
        · cases h
  no {a b} h := by
    unfold andE at h
    split at h
    · cases h
    · split at h
      · cases h
      · split at h
        · cases h
        · omega
theorem orOk : EndOk orE (· || ·) where
  yes {ns a b c} ha hb h := by
    unfold orE at h
    split at h
    · rename_i h1
      simp only [Option.some.injEq] at h
      subst h
      refine ⟨by omega, fun ρ => ?_, .inl (top_const (by omega))⟩
      rcases h1 with rfl | rfl <;> simp [sem_one]
    · split at h
      · simp only [Option.some.injEq] at h
        subst h
        rename_i h1; subst h1
        exact ⟨hb, fun ρ => by simp [sem_zero], .inr (.inr rfl)⟩
      · split at h
        · rename_i h1
          simp only [Option.some.injEq] at h
          subst h
          refine ⟨ha, fun ρ => ?_, .inr (.inl rfl)⟩
          rcases h1 with rfl | rfl <;> simp [sem_zero]
        · cases h
  no {a b} h := by
    unfold orE at h
    split at h
    · cases h
    · split at h
      · cases h
      · split at h
        · cases h
        · omega

def DoneOk (ns : List Nd) (op : Bool → Bool → Bool) (dn : List ((Nat × Nat) × Nat)) : Prop :=
  ∀ a b c, lookN (a, b) dn = some c → a < ns.length + 2 ∧ b < ns.length + 2 ∧ c < ns.length + 2 ∧ (∀ ρ, sem ns c ρ = op (sem ns a ρ) (sem ns b ρ)) ∧ min (top ns a) (top ns b) ≤ top ns c

theorem pre_len {α : Type} {a b : List α} (h : a <+: b) : a.length ≤ b.length := h.length_le

theorem DoneOk.mono {ns ns' : List Nd} {op : Bool → Bool → Bool} {dn : List ((Nat × Nat) × Nat)} (h : DoneOk ns op dn) (hp : ns <+: ns') : DoneOk ns' op dn := by
  intro a b c hl
  obtain ⟨h1, h2, h3, h4, h5⟩ := h a b c hl
  have := pre_len hp
  refine ⟨by omega, by omega, by omega, fun ρ => ?_, ?_⟩
  · rw [sem_pre hp h1, sem_pre hp h2, sem_pre hp h3, h4]
  · rw [top_pre hp h1, top_pre hp h2, top_pre hp h3]; exact h5

theorem waysN_spec {K : Nat} {ns : List Nd} (h : Tb K ns) {a v : Nat} (hl : a < ns.length + 2) (hv : v ≤ top ns a) (hk : v < K) (hf : v < far) :
    (waysN ns a v).1 ≤ a ∧ (waysN ns a v).2 ≤ a ∧ (top ns a = v → (waysN ns a v).1 < a ∧ (waysN ns a v).2 < a) ∧ v < top ns (waysN ns a v).1 ∧ v < top ns (waysN ns a v).2 ∧
      ∀ ρ, sem ns a ρ = if ρ v then sem ns (waysN ns a v).2 ρ else sem ns (waysN ns a v).1 ρ := by
  by_cases ht : top ns a = v
  · have ha : 2 ≤ a := by
      have h0 : ¬ a < 2 := fun h0 => by have := top_const (ns := ns) h0; omega
      omega
    obtain ⟨n, hn⟩ := h.wf.at ha hl
    have hnv : n.v = v := by have := hn.tp; omega
    have e : waysN ns a v = (n.lo, n.hi) := by unfold waysN; rw [if_pos ht, hn.get]
    have h1 := hn.lo
    have h2 := hn.hi
    rw [e]
    refine ⟨Nat.le_of_lt h1, Nat.le_of_lt h2, fun _ => ⟨h1, h2⟩, hnv ▸ hn.vlo, hnv ▸ hn.vhi, fun ρ => ?_⟩
    rw [hn.sem, hnv]
  · have e : waysN ns a v = (a, a) := by unfold waysN; rw [if_neg ht]
    rw [e]
    exact ⟨Nat.le_refl _, Nat.le_refl _, fun h => absurd h ht, by show v < top ns a; omega, by show v < top ns a; omega, fun ρ => by simp⟩

theorem both_spec {K : Nat} {en : Nat → Nat → Option Nat} {op : Bool → Bool → Bool} (he : EndOk en op) : ∀ (f : Nat) {ns : List Nd} {dn : List ((Nat × Nat) × Nat)} {a b : Nat}, a + b < f → Tb K ns → DoneOk ns op dn → a < ns.length + 2 → b < ns.length + 2 →
    ∃ ns' dn' r, bothF en f ns dn a b = some (ns', dn', r) ∧ DoneOk ns' op dn' ∧ Made K ns ns' r (fun ρ => op (sem ns a ρ) (sem ns b ρ)) (min (top ns a) (top ns b)) (cap K (min (top ns a) (top ns b))) := by
  intro f
  induction f with
  | zero => intro ns dn a b h; omega
  | succ f ih =>
    intro ns dn a b hf ht hd ha hb
    unfold bothF
    cases h1 : en a b with
    | some c =>
      obtain ⟨g1, g2, g3⟩ := he.yes ha hb h1
      have g4 := top_le_far ht.wf ha
      have g5 := top_le_far ht.wf hb
      exact ⟨ns, dn, c, rfl, hd, ht, List.prefix_refl _, g1, g2, by omega, by omega⟩
    | none =>
      cases h2 : lookN (a, b) dn with
      | some c =>
        obtain ⟨_, _, g1, g2, g3⟩ := hd a b c h2
        exact ⟨ns, dn, c, rfl, hd, ht, List.prefix_refl _, g1, g2, g3, by omega⟩
      | none =>
        obtain ⟨ha2, hb2⟩ := he.no h1
        obtain ⟨na, hna⟩ := ht.wf.at ha2 ha
        obtain ⟨nb, hnb⟩ := ht.wf.at hb2 hb
        have ka := ht.top_lt hna
        have kb := ht.top_lt hnb
        have fa := hna.vf
        have fb := hnb.vf
        have ta := hna.tp
        have tb := hnb.tp
        simp only
        generalize hv : min (top ns a) (top ns b) = v
        have hvk : v < K := by omega
        have hvf : v < far := by omega
        obtain ⟨a1, a2, a3, a4, a5, a6⟩ := waysN_spec ht ha (show v ≤ top ns a by omega) hvk hvf
        obtain ⟨b1, b2, b3, b4, b5, b6⟩ := waysN_spec ht hb (show v ≤ top ns b by omega) hvk hvf
        generalize (waysN ns a v).1 = al at *
        generalize (waysN ns a v).2 = ah at *
        generalize (waysN ns b v).1 = bl at *
        generalize (waysN ns b v).2 = bh at *
        have hor : top ns a = v ∨ top ns b = v := by omega
        have hlt : al + bl < f ∧ ah + bh < f := by
          rcases hor with h | h
          · have := a3 h; omega
          · have := b3 h; omega
        obtain ⟨ns1, dn1, lo, p1, p2, p3⟩ := ih hlt.1 ht hd (show al < ns.length + 2 by omega) (show bl < ns.length + 2 by omega)
        have l1 := pre_len p3.pre
        obtain ⟨ns2, dn2, hi, q1, q2, q3⟩ := ih hlt.2 p3.tb p2 (show ah < ns1.length + 2 by omega) (show bh < ns1.length + 2 by omega)
        rw [p1]; simp only
        rw [q1]; simp only
        have l2 := pre_len q3.pre
        have t1 : top ns1 ah = top ns ah := top_pre p3.pre (by omega)
        have t2 : top ns1 bh = top ns bh := top_pre p3.pre (by omega)
        have t3 : top ns2 lo = top ns1 lo := top_pre q3.pre p3.val
        have p4 := p3.tp
        have q4 := q3.tp
        rw [t1, t2] at q4
        have m := mkN_spec q3.tb (n := ⟨v, lo, hi⟩) hvk (by have := p3.val; show lo < _; omega) q3.val (by show v < top ns2 lo; omega) (by show v < top ns2 hi; omega)
        have hpre : ns <+: (mkN ns2 ⟨v, lo, hi⟩).2 := (p3.pre.trans q3.pre).trans m.pre
        have hsem : ∀ ρ, sem (mkN ns2 ⟨v, lo, hi⟩).2 (mkN ns2 ⟨v, lo, hi⟩).1 ρ = op (sem ns a ρ) (sem ns b ρ) := by
          intro ρ
          rw [m.sem]
          simp only
          rw [a6, b6]
          by_cases hr : ρ v = true
          · rw [if_pos hr, if_pos hr, if_pos hr, q3.sem, sem_pre p3.pre (by omega), sem_pre p3.pre (by omega)]
          · rw [if_neg hr, if_neg hr, if_neg hr, sem_pre q3.pre p3.val, p3.sem]
        refine ⟨_, _, _, rfl, ?_, m.tb, hpre, m.val, hsem, m.tp, ?_⟩
        · intro x y c hl
          rw [lookN_aputN] at hl
          split at hl
          · rename_i hxy
            simp only [Prod.mk.injEq] at hxy
            obtain ⟨rfl, rfl⟩ := hxy
            simp only [Option.some.injEq] at hl
            subst hl
            have := pre_len hpre
            refine ⟨by omega, by omega, m.val, fun ρ => ?_, ?_⟩
            · rw [hsem, sem_pre hpre ha, sem_pre hpre hb]
            · rw [top_pre hpre ha, top_pre hpre hb, hv]; exact m.tp
          · exact q2.mono m.pre x y c hl
        · have c1 := p3.cnt
          have c2 := q3.cnt
          have c3 := m.cnt
          rw [t1, t2] at c2
          have c4 := cap_two (K := K) (t := v) (a := min (top ns al) (top ns bl)) (b := min (top ns ah) (top ns bh)) hvk (by omega) (by omega)
          omega

/-! the opposite -/
def oppF : Nat → List Nd → Nat → Option (List Nd × Nat)
  | 0, _, _ => none
  | f + 1, ns, a => if a < 2 then some (ns, 1 - a) else
    match ns[a - 2]? with
    | none => none
    | some n => match oppF f ns n.lo with
      | none => none
      | some (ns1, lo) => match oppF f ns1 n.hi with
        | none => none
        | some (ns2, hi) => some ((mkN ns2 ⟨n.v, lo, hi⟩).2, (mkN ns2 ⟨n.v, lo, hi⟩).1)

theorem opp_spec {K : Nat} : ∀ (f : Nat) {ns : List Nd} {a : Nat}, a < f → Tb K ns → a < ns.length + 2 →
    ∃ ns' r, oppF f ns a = some (ns', r) ∧ Made K ns ns' r (fun ρ => !sem ns a ρ) (top ns a) (cap K (top ns a)) := by
  intro f
  induction f with
  | zero => intro ns a h; omega
  | succ f ih =>
    intro ns a hf ht ha
    unfold oppF
    by_cases h2 : a < 2
    · rw [if_pos h2]
      refine ⟨ns, 1 - a, rfl, ht, List.prefix_refl _, by omega, fun ρ => ?_, ?_, by omega⟩
      · match a, h2 with
        | 0, _ => simp [sem_zero, sem_one]
        | 1, _ => simp [sem_zero, sem_one]
      · rw [top_const h2, top_const (by omega)]; exact Nat.le_refl _
    · rw [if_neg h2]
      obtain ⟨n, hn⟩ := ht.wf.at (by omega) ha
      have h3 := hn.lo
      have h4 := hn.hi
      have h5 := hn.vlo
      have h6 := hn.vhi
      have h7 := ht.top_lt hn
      rw [hn.get]; simp only
      obtain ⟨ns1, lo, p1, p3⟩ := ih (show n.lo < f by omega) ht (by omega)
      have l1 := pre_len p3.pre
      obtain ⟨ns2, hi, q1, q3⟩ := ih (show n.hi < f by omega) p3.tb (by omega)
      rw [p1]; simp only
      rw [q1]; simp only
      have t1 : top ns1 n.hi = top ns n.hi := top_pre p3.pre (by omega)
      have t3 : top ns2 lo = top ns1 lo := top_pre q3.pre p3.val
      have p4 := p3.tp
      have q4 := q3.tp
      have l2 := pre_len q3.pre
      have m := mkN_spec q3.tb (n := ⟨n.v, lo, hi⟩) h7 (by have := p3.val; show lo < _; omega) q3.val (by show n.v < top ns2 lo; omega) (by show n.v < top ns2 hi; omega)
      refine ⟨_, _, rfl, m.tb, (p3.pre.trans q3.pre).trans m.pre, m.val, fun ρ => ?_, by rw [hn.tp]; exact m.tp, ?_⟩
      · rw [m.sem, hn.sem]
        simp only
        by_cases hr : ρ n.v = true
        · rw [if_pos hr, if_pos hr, q3.sem, sem_pre p3.pre (by omega)]
        · rw [if_neg hr, if_neg hr, sem_pre q3.pre p3.val, p3.sem]
      · have c1 := p3.cnt
        have c2 := q3.cnt
        have c3 := m.cnt
        rw [t1] at c2
        rw [hn.tp]
        have c4 := cap_two (K := K) (t := n.v) (a := top ns n.lo) (b := top ns n.hi) h7 h5 h6
        omega

/-! a variable as it is told -/
def withF (v : Nat) (is : Bool) : Nat → List Nd → Nat → Option (List Nd × Nat)
  | 0, _, _ => none
  | f + 1, ns, a => if v < top ns a then some (ns, a) else
    match ns[a - 2]? with
    | none => none
    | some n => if n.v = v then some (ns, if is then n.hi else n.lo) else match withF v is f ns n.lo with
      | none => none
      | some (ns1, lo) => match withF v is f ns1 n.hi with
        | none => none
        | some (ns2, hi) => some ((mkN ns2 ⟨n.v, lo, hi⟩).2, (mkN ns2 ⟨n.v, lo, hi⟩).1)

theorem with_spec {K v : Nat} {is : Bool} (hv : v < far) : ∀ (f : Nat) {ns : List Nd} {a : Nat}, a < f → Tb K ns → a < ns.length + 2 →
    ∃ ns' r, withF v is f ns a = some (ns', r) ∧ Made K ns ns' r (fun ρ => sem ns a (upd ρ v is)) (top ns a) (cap K (top ns a)) := by
  intro f
  induction f with
  | zero => intro ns a h; omega
  | succ f ih =>
    intro ns a hf ht ha
    unfold withF
    by_cases h2 : v < top ns a
    · rw [if_pos h2]
      exact ⟨ns, a, rfl, ht, List.prefix_refl _, ha, fun ρ => (sem_upd ht.wf ha h2).symm, Nat.le_refl _, by omega⟩
    · rw [if_neg h2]
      have ha2 : ¬ a < 2 := fun h0 => h2 (by rw [top_const h0]; exact hv)
      obtain ⟨n, hn⟩ := ht.wf.at (by omega) ha
      have h3 := hn.lo
      have h4 := hn.hi
      have h5 := hn.vlo
      have h6 := hn.vhi
      have h7 := ht.top_lt hn
      rw [hn.get]; simp only
      by_cases h8 : n.v = v
      · rw [if_pos h8]
        subst h8
        refine ⟨ns, _, rfl, ht, List.prefix_refl _, by split <;> omega, fun ρ => ?_, by rw [hn.tp]; split <;> omega, by omega⟩
        rw [hn.sem, upd_self]
        cases is
        · simp only [Bool.false_eq_true, if_false]; rw [sem_upd ht.wf (by omega) h5]
        · simp only [if_true]; rw [sem_upd ht.wf (by omega) h6]
      · rw [if_neg h8]
        obtain ⟨ns1, lo, p1, p3⟩ := ih (show n.lo < f by omega) ht (by omega)
        have l1 := pre_len p3.pre
        obtain ⟨ns2, hi, q1, q3⟩ := ih (show n.hi < f by omega) p3.tb (by omega)
        rw [p1]; simp only
        rw [q1]; simp only
        have t1 : top ns1 n.hi = top ns n.hi := top_pre p3.pre (by omega)
        have t3 : top ns2 lo = top ns1 lo := top_pre q3.pre p3.val
        have p4 := p3.tp
        have q4 := q3.tp
        have l2 := pre_len q3.pre
        have m := mkN_spec q3.tb (n := ⟨n.v, lo, hi⟩) h7 (by have := p3.val; show lo < _; omega) q3.val (by show n.v < top ns2 lo; omega) (by show n.v < top ns2 hi; omega)
        refine ⟨_, _, rfl, m.tb, (p3.pre.trans q3.pre).trans m.pre, m.val, fun ρ => ?_, by rw [hn.tp]; exact m.tp, ?_⟩
        · rw [m.sem, hn.sem]
          simp only
          rw [upd_ne h8]
          by_cases hr : ρ n.v = true
          · rw [if_pos hr, if_pos hr, q3.sem, sem_pre p3.pre (by omega)]
          · rw [if_neg hr, if_neg hr, sem_pre q3.pre p3.val, p3.sem]
        · have c1 := p3.cnt
          have c2 := q3.cnt
          have c3 := m.cnt
          rw [t1] at c2
          rw [hn.tp]
          have c4 := cap_two (K := K) (t := n.v) (a := top ns n.lo) (b := top ns n.hi) h7 h5 h6
          omega

/-! what is reached -/
inductive Reach (ns : List Nd) : Nat → Nat → Prop
  | refl (a : Nat) : Reach ns a a
  | lo {a b n} : 2 ≤ a → ns[a - 2]? = some n → Reach ns n.lo b → Reach ns a b
  | hi {a b n} : 2 ≤ a → ns[a - 2]? = some n → Reach ns n.hi b → Reach ns a b

theorem Reach.mono {ns ns' : List Nd} (hp : ns <+: ns') {a b : Nat} (h : Reach ns a b) : Reach ns' a b := by
  obtain ⟨t, rfl⟩ := hp
  induction h with
  | refl a => exact .refl a
  | lo h1 h2 _ ih => exact .lo h1 (by rw [List.getElem?_append_left (List.getElem?_eq_some_iff.1 h2).1]; exact h2) ih
  | hi h1 h2 _ ih => exact .hi h1 (by rw [List.getElem?_append_left (List.getElem?_eq_some_iff.1 h2).1]; exact h2) ih

theorem WF.at' {ns : List Nd} (h : WF ns) {a : Nat} {n : Nd} (ha : 2 ≤ a) (hn : ns[a - 2]? = some n) : At ns a n := by
  have hl := (List.getElem?_eq_some_iff.1 hn).1
  obtain ⟨m, hm⟩ := h.at ha (by omega)
  have := hm.get
  rw [hn] at this
  cases this
  exact hm

/-- A way to what is reached: a choice that leads there. -/
theorem Reach.way {ns : List Nd} (h : WF ns) {a b : Nat} (hr : Reach ns a b) : a < ns.length + 2 → b < ns.length + 2 ∧ top ns a ≤ top ns b ∧ ∃ σ : Nat → Bool, ∀ ρ : Nat → Bool, (∀ x, x < top ns b → ρ x = σ x) → sem ns a ρ = sem ns b ρ := by
  induction hr with
  | refl a => intro hl; exact ⟨hl, Nat.le_refl _, fun _ => false, fun _ _ => rfl⟩
  | @lo a b n h1 h2 hr ih =>
    intro hl
    have hn := h.at' h1 h2
    have h3 := hn.lo
    have h5 := hn.vlo
    obtain ⟨g1, g2, σ, g3⟩ := ih (by omega)
    refine ⟨g1, by rw [hn.tp]; omega, upd σ n.v false, fun ρ hρ => ?_⟩
    have e1 : ρ n.v = false := by rw [hρ n.v (by omega), upd_self]
    rw [hn.sem, e1]
    simp only [Bool.false_eq_true, if_false]
    have e2 := g3 (upd ρ n.v (σ n.v)) fun x hx => by
      by_cases hxv : x = n.v
      · subst hxv; rw [upd_self]
      · rw [upd_ne hxv, hρ x hx, upd_ne hxv]
    rwa [sem_upd h (by omega) h5, sem_upd h g1 (by omega)] at e2
  | @hi a b n h1 h2 hr ih =>
    intro hl
    have hn := h.at' h1 h2
    have h3 := hn.hi
    have h5 := hn.vhi
    obtain ⟨g1, g2, σ, g3⟩ := ih (by omega)
    refine ⟨g1, by rw [hn.tp]; omega, upd σ n.v true, fun ρ hρ => ?_⟩
    have e1 : ρ n.v = true := by rw [hρ n.v (by omega), upd_self]
    rw [hn.sem, e1]
    simp only [if_true]
    have e2 := g3 (upd ρ n.v (σ n.v)) fun x hx => by
      by_cases hxv : x = n.v
      · subst hxv; rw [upd_self]
      · rw [upd_ne hxv, hρ x hx, upd_ne hxv]
    rwa [sem_upd h (by omega) h5, sem_upd h g1 (by omega)] at e2

/-- What hangs on a node's variable. -/
theorem Reach.hangs {ns : List Nd} (h : WF ns) {a b : Nat} {n : Nd} (hr : Reach ns a b) (hl : a < ns.length + 2) (hb : 2 ≤ b) (hn : ns[b - 2]? = some n) : ∃ ρ, sem ns a (upd ρ n.v true) ≠ sem ns a (upd ρ n.v false) := by
  obtain ⟨g1, _, σ, g3⟩ := hr.way h hl
  have hn := h.at' hb hn
  have h1 := hn.lo
  have h2 := hn.hi
  have ht := hn.tp
  obtain ⟨ρ, hρ⟩ : ∃ ρ, sem ns n.lo ρ ≠ sem ns n.hi ρ := Classical.byContradiction fun hc => hn.ne (canon h (max n.lo n.hi) n.lo n.hi (Nat.le_max_left _ _) (Nat.le_max_right _ _) (by omega) (by omega) fun ρ => Classical.byContradiction fun h => hc ⟨ρ, h⟩)
  let τ : Nat → Bool := fun x => if x < n.v then σ x else ρ x
  refine ⟨τ, ?_⟩
  have e : ∀ c : Bool, sem ns a (upd τ n.v c) = if c then sem ns n.hi ρ else sem ns n.lo ρ := by
    intro c
    rw [g3 (upd τ n.v c) fun x hx => by rw [upd_ne (by omega)]; simp only [τ]; rw [if_pos (by omega)]]
    rw [hn.sem, upd_self]
    have q1 : sem ns n.hi (upd τ n.v c) = sem ns n.hi ρ := sem_dep h _ (by omega) _ _ fun x hx => by
      have := hn.vhi
      rw [upd_ne (by omega)]; simp only [τ]; rw [if_neg (by omega)]
    have q2 : sem ns n.lo (upd τ n.v c) = sem ns n.lo ρ := sem_dep h _ (by omega) _ _ fun x hx => by
      have := hn.vlo
      rw [upd_ne (by omega)]; simp only [τ]; rw [if_neg (by omega)]
    rw [q1, q2]
  rw [e, e]
  simpa using fun h => hρ h.symm

/-! taking -/
def dfsF (ns : List Nd) : Nat → List (Nat × Nat) → List Nd → Nat → Option (List (Nat × Nat) × List Nd × Nat)
  | 0, _, _, _ => none
  | f + 1, mm, out, a => match lookN a mm with
    | some to => some (mm, out, to)
    | none => match ns[a - 2]? with
      | none => none
      | some n => match dfsF ns f mm out n.lo with
        | none => none
        | some (m1, o1, lo) => match dfsF ns f m1 o1 n.hi with
          | none => none
          | some (m2, o2, hi) => some (aputN a (o2.length + 2) m2, o2 ++ [⟨n.v, lo, hi⟩], o2.length + 2)

structure MemoOk (K : Nat) (ns : List Nd) (mm : List (Nat × Nat)) (out : List Nd) : Prop where
  tb : Tb K out
  z : lookN 0 mm = some 0
  o : lookN 1 mm = some 1
  ok : ∀ x y, lookN x mm = some y → x < ns.length + 2 ∧ y < out.length + 2 ∧ (∀ ρ, sem out y ρ = sem ns x ρ) ∧ top out y = top ns x
  sur : ∀ j, j < out.length → ∃ x, lookN x mm = some (j + 2)

theorem dfs_spec {K : Nat} {ns : List Nd} (ht : Tb K ns) : ∀ (f : Nat) {mm : List (Nat × Nat)} {out : List Nd} {a : Nat}, a < f → MemoOk K ns mm out → a < ns.length + 2 →
    ∃ mm' out' r, dfsF ns f mm out a = some (mm', out', r) ∧ MemoOk K ns mm' out' ∧ out <+: out' ∧ lookN a mm' = some r ∧ (∀ x y, lookN x mm = some y → lookN x mm' = some y) ∧ (∀ x, lookN x mm = none → a < x → lookN x mm' = none) ∧
      out'.length ≤ out.length + cap K (top ns a) ∧ (∀ j, out.length ≤ j → j < out'.length → Reach out' r (j + 2)) ∧ (lookN a mm = none → r = out'.length + 1) := by
  intro f
  induction f with
  | zero => intro mm out a h; omega
  | succ f ih =>
    intro mm out a hf hm ha
    unfold dfsF
    cases h1 : lookN a mm with
    | some to => exact ⟨mm, out, to, rfl, hm, List.prefix_refl _, h1, fun _ _ h => h, fun _ h _ => h, by omega, fun j h1 h2 => by omega, fun h => by cases h⟩
    | none =>
      have ha2 : 2 ≤ a := by
        rcases Nat.lt_or_ge a 2 with h | h
        · match a, h with
          | 0, _ => rw [hm.z] at h1; cases h1
          | 1, _ => rw [hm.o] at h1; cases h1
        · exact h
      obtain ⟨n, hn⟩ := ht.wf.at ha2 ha
      have h3 := hn.lo
      have h4 := hn.hi
      have h5 := hn.vlo
      have h6 := hn.vhi
      have h7 := ht.top_lt hn
      simp only [hn.get]
      obtain ⟨m1, o1, lo, p1, p2, p3, p4, p5, p6, p7, p8, _⟩ := ih (show n.lo < f by omega) hm (by omega)
      obtain ⟨m2, o2, hi, q1, q2, q3, q4, q5, q6, q7, q8, _⟩ := ih (show n.hi < f by omega) p2 (by omega)
      rw [p1]; simp only
      rw [q1]; simp only
      have hlo := q2.ok _ _ (q5 _ _ p4)
      have hhi := q2.ok _ _ q4
      obtain ⟨a1, a2, a3, a4⟩ := hlo
      obtain ⟨b1, b2, b3, b4⟩ := hhi
      have hna : lookN a m2 = none := q6 _ (p6 _ h1 h3) h4
      have hne : lo ≠ hi := by
        intro e
        subst e
        apply hn.ne
        exact canon ht.wf (max n.lo n.hi) _ _ (Nat.le_max_left _ _) (Nat.le_max_right _ _) a1 b1 fun ρ => by rw [← a3, ← b3]
      have hfit : Fit o2 ⟨n.v, lo, hi⟩ := ⟨a2, b2, hne, by show n.v < top o2 lo; omega, by show n.v < top o2 hi; omega, hn.vf⟩
      have hsem : ∀ ρ, (if ρ n.v then sem o2 hi ρ else sem o2 lo ρ) = sem ns a ρ := fun ρ => by rw [a3, b3, hn.sem]
      have hnew : (⟨n.v, lo, hi⟩ : Nd) ∉ o2 := by
        intro hmem
        obtain ⟨j, hj⟩ := List.getElem?_of_mem hmem
        have hjl := (List.getElem?_eq_some_iff.1 hj).1
        obtain ⟨x, hx⟩ := q2.sur j hjl
        obtain ⟨x1, x2, x3, _⟩ := q2.ok _ _ hx
        have hat := q2.tb.wf.at' (a := j + 2) (by omega) (by simpa using hj)
        have : x = a := canon ht.wf (max x a) x a (Nat.le_max_left _ _) (Nat.le_max_right _ _) x1 ha fun ρ => by rw [← x3, hat.sem]; exact hsem ρ
        subst this
        rw [hna] at hx
        cases hx
      have htb : Tb K (o2 ++ [⟨n.v, lo, hi⟩]) := ⟨.snoc q2.tb.wf hfit hnew, fun m hm => by
        rcases List.mem_append.1 hm with h | h
        · exact q2.tb.low m h
        · simp at h; subst h; exact h7⟩
      have hp2 : o2 <+: o2 ++ [⟨n.v, lo, hi⟩] := List.prefix_append _ _
      have hsn : ∀ ρ, sem (o2 ++ [⟨n.v, lo, hi⟩]) (o2.length + 2) ρ = sem ns a ρ := fun ρ => by rw [sem_snoc]; exact hsem ρ
      have htp : top (o2 ++ [⟨n.v, lo, hi⟩]) (o2.length + 2) = top ns a := by
        rw [hn.tp]
        simp only [top]
        rw [if_neg (by omega), show o2.length + 2 - 2 = o2.length by omega, List.getElem?_append_right (Nat.le_refl _), Nat.sub_self]
        rfl
      have h20 : ¬ (0 : Nat) = a := by omega
      have h21 : ¬ (1 : Nat) = a := by omega
      refine ⟨_, _, _, rfl, ⟨htb, ?_, ?_, ?_, ?_⟩, (p3.trans q3).trans hp2, by rw [lookN_aputN, if_pos rfl], ?_, ?_, ?_, ?_, fun _ => by simp⟩
      · rw [lookN_aputN, if_neg h20]; exact q2.z
      · rw [lookN_aputN, if_neg h21]; exact q2.o
      · intro x y hxy
        rw [lookN_aputN] at hxy
        split at hxy
        · rename_i hxa
          subst hxa
          simp only [Option.some.injEq] at hxy
          subst hxy
          exact ⟨ha, by simp, hsn, htp⟩
        · obtain ⟨g1, g2, g3, g4⟩ := q2.ok x y hxy
          refine ⟨g1, by simp; omega, fun ρ => ?_, ?_⟩
          · rw [sem_pre hp2 g2, g3]
          · rw [top_pre hp2 g2, g4]
      · intro j hj
        simp only [List.length_append, List.length_cons, List.length_nil] at hj
        by_cases hjl : j < o2.length
        · obtain ⟨x, hx⟩ := q2.sur j hjl
          refine ⟨x, ?_⟩
          rw [lookN_aputN, if_neg (fun e => by subst e; rw [hna] at hx; cases hx)]
          exact hx
        · obtain rfl : j = o2.length := by omega
          exact ⟨a, by rw [lookN_aputN, if_pos rfl]⟩
      · intro x y hxy
        have hxa : x ≠ a := fun e => by subst e; rw [h1] at hxy; cases hxy
        rw [lookN_aputN, if_neg hxa]
        exact q5 _ _ (p5 _ _ hxy)
      · intro x hx hax
        rw [lookN_aputN, if_neg (by omega)]
        exact q6 _ (p6 _ hx (by omega)) (by omega)
      · simp only [List.length_append, List.length_cons, List.length_nil]
        rw [hn.tp]
        have c4 := cap_two (K := K) (t := n.v) (a := top ns n.lo) (b := top ns n.hi) h7 h5 h6
        omega
      · intro j hj1 hj2
        simp only [List.length_append, List.length_cons, List.length_nil] at hj2
        have hget : (o2 ++ [(⟨n.v, lo, hi⟩ : Nd)])[o2.length + 2 - 2]? = some ⟨n.v, lo, hi⟩ := by
          rw [show o2.length + 2 - 2 = o2.length by omega, List.getElem?_append_right (Nat.le_refl _), Nat.sub_self]; rfl
        by_cases h8 : j < o1.length
        · exact .lo (by omega) hget ((p8 j hj1 h8).mono (q3.trans hp2))
        · by_cases h9 : j < o2.length
          · exact .hi (by omega) hget ((q8 j (by omega) h9).mono hp2)
          · obtain rfl : j = o2.length := by omega
            exact .refl _

theorem memo0 {K : Nat} {ns : List Nd} : MemoOk K ns [(0, 0), (1, 1)] [] where
  tb := ⟨.nil, fun n h => by cases h⟩
  z := rfl
  o := rfl
  ok x y h := by
    simp only [lookN] at h
    split at h
    · cases h; subst_vars; exact ⟨by omega, by simp, fun ρ => by rw [sem_zero, sem_zero], by rw [top_const (by omega), top_const (by omega)]⟩
    · split at h
      · cases h; subst_vars; exact ⟨by omega, by simp, fun ρ => by rw [sem_one, sem_one], by rw [top_const (by omega), top_const (by omega)]⟩
      · cases h
  sur j h := by simp at h

/-- The same function in two tables: the same variable ahead, the same ways. -/
theorem cross {ns ms : List Nd} (h : WF ns) (h' : WF ms) {a b : Nat} {n m : Nd} (hn : At ns a n) (hm : At ms b m) (hs : ∀ ρ, sem ns a ρ = sem ms b ρ) : n.v = m.v ∧ (∀ ρ, sem ns n.lo ρ = sem ms m.lo ρ) ∧ ∀ ρ, sem ns n.hi ρ = sem ms m.hi ρ := by
  have key : ∀ {ns ms : List Nd} (_ : WF ns) (_ : WF ms) {a b : Nat} {n m : Nd} (_ : At ns a n) (_ : At ms b m) (_ : ∀ ρ, sem ns a ρ = sem ms b ρ), ¬ n.v < m.v := by
    intro ns ms h h' a b n m hn hm hs hlt
    have h1 := hn.lo
    have h2 := hn.hi
    have h3 := hn.al
    apply hn.ne
    refine canon h (max n.lo n.hi) n.lo n.hi (Nat.le_max_left _ _) (Nat.le_max_right _ _) (by omega) (by omega) fun ρ => ?_
    have e1 := hs (upd ρ n.v false)
    have e2 := hs (upd ρ n.v true)
    rw [sem_upd h' hm.al (by rw [hm.tp]; exact hlt)] at e1 e2
    rw [hn.sem, upd_self] at e1 e2
    simp only [Bool.false_eq_true, if_false, if_true] at e1 e2
    rw [sem_upd h (by omega) hn.vlo] at e1
    rw [sem_upd h (by omega) hn.vhi] at e2
    rw [e1, e2]
  have k1 := key h h' hn hm hs
  have k2 := key h' h hm hn fun ρ => (hs ρ).symm
  have hv : n.v = m.v := by omega
  have a1 := hn.lo
  have a2 := hn.hi
  have a3 := hn.al
  have b1 := hm.lo
  have b2 := hm.hi
  have b3 := hm.al
  have e : ∀ (x : Bool) (ρ : Nat → Bool), (if x then sem ns n.hi ρ else sem ns n.lo ρ) = if x then sem ms m.hi ρ else sem ms m.lo ρ := by
    intro x ρ
    have e1 := hs (upd ρ n.v x)
    rw [hn.sem, hm.sem, ← hv, upd_self, sem_upd h (by omega) hn.vlo, sem_upd h (by omega) hn.vhi, hv, sem_upd h' (by omega) hm.vlo, sem_upd h' (by omega) hm.vhi] at e1
    exact e1
  exact ⟨hv, fun ρ => by simpa using e false ρ, fun ρ => by simpa using e true ρ⟩

def Rel (ns ms : List Nd) (mm nn : List (Nat × Nat)) : Prop := ∀ x y, x < ns.length + 2 → y < ms.length + 2 → (∀ ρ, sem ns x ρ = sem ms y ρ) → lookN x mm = lookN y nn

theorem dfs_same {ns ms : List Nd} (h : WF ns) (h' : WF ms) : ∀ (f g : Nat) {mm nn mm' nn' : List (Nat × Nat)} {out o1 o2 : List Nd} {a b r s : Nat}, Rel ns ms mm nn → (lookN 0 mm ≠ none ∧ lookN 1 mm ≠ none) → (lookN 0 nn ≠ none ∧ lookN 1 nn ≠ none) → a < ns.length + 2 → b < ms.length + 2 → (∀ ρ, sem ns a ρ = sem ms b ρ) →
    dfsF ns f mm out a = some (mm', o1, r) → dfsF ms g nn out b = some (nn', o2, s) → o1 = o2 ∧ r = s ∧ Rel ns ms mm' nn' ∧ (lookN 0 mm' ≠ none ∧ lookN 1 mm' ≠ none) ∧ (lookN 0 nn' ≠ none ∧ lookN 1 nn' ≠ none) := by
  intro f
  induction f with
  | zero => intro g mm nn mm' nn' out o1 o2 a b r s _ _ _ _ _ _ h1; cases h1
  | succ f ih =>
    intro g mm nn mm' nn' out o1 o2 a b r s hr hz hz' ha hb hs h1 h2
    cases g with
    | zero => cases h2
    | succ g =>
      unfold dfsF at h1 h2
      have hl := hr a b ha hb hs
      cases h3 : lookN a mm with
      | some to =>
        rw [h3] at hl h1
        rw [← hl] at h2
        simp only [Option.some.injEq, Prod.mk.injEq] at h1 h2
        obtain ⟨rfl, rfl, rfl⟩ := h1
        obtain ⟨rfl, rfl, rfl⟩ := h2
        exact ⟨rfl, rfl, hr, hz, hz'⟩
      | none =>
        rw [h3] at hl h1
        rw [← hl] at h2
        have ha2 : 2 ≤ a := by
          rcases Nat.lt_or_ge a 2 with h | h
          · match a, h with
            | 0, _ => exact absurd h3 hz.1
            | 1, _ => exact absurd h3 hz.2
          · exact h
        have hb2 : 2 ≤ b := by
          rcases Nat.lt_or_ge b 2 with h | h
          · match b, h with
            | 0, _ => exact absurd hl.symm hz'.1
            | 1, _ => exact absurd hl.symm hz'.2
          · exact h
        obtain ⟨n, hn⟩ := h.at ha2 ha
        obtain ⟨m, hm⟩ := h'.at hb2 hb
        obtain ⟨c1, c2, c3⟩ := cross h h' hn hm hs
        have a1 := hn.lo
        have a2 := hn.hi
        have b1 := hm.lo
        have b2 := hm.hi
        simp only [hn.get] at h1
        simp only [hm.get] at h2
        cases e1 : dfsF ns f mm out n.lo with
        | none => rw [e1] at h1; cases h1
        | some x1 =>
          obtain ⟨m1, p1, l1⟩ := x1
          rw [e1] at h1; simp only at h1
          cases e2 : dfsF ms g nn out m.lo with
          | none => rw [e2] at h2; cases h2
          | some x2 =>
            obtain ⟨m2, p2, l2⟩ := x2
            rw [e2] at h2; simp only at h2
            obtain ⟨rfl, rfl, r1, z1, z1'⟩ := ih g hr hz hz' (by omega) (by omega) c2 e1 e2
            cases e3 : dfsF ns f m1 p1 n.hi with
            | none => rw [e3] at h1; cases h1
            | some x3 =>
              obtain ⟨m3, p3, l3⟩ := x3
              rw [e3] at h1; simp only at h1
              cases e4 : dfsF ms g m2 p1 m.hi with
              | none => rw [e4] at h2; cases h2
              | some x4 =>
                obtain ⟨m4, p4, l4⟩ := x4
                rw [e4] at h2; simp only at h2
                obtain ⟨rfl, rfl, r2, z2, z2'⟩ := ih g r1 z1 z1' (by omega) (by omega) c3 e3 e4
                simp only [Option.some.injEq, Prod.mk.injEq] at h1 h2
                obtain ⟨rfl, rfl, rfl⟩ := h1
                obtain ⟨rfl, rfl, rfl⟩ := h2
                refine ⟨by rw [c1], rfl, ?_, ?_, ?_⟩
                · intro x y hx hy hxy
                  rw [lookN_aputN, lookN_aputN]
                  by_cases hxa : x = a
                  · subst hxa
                    have : y = b := canon h' (max y b) y b (Nat.le_max_left _ _) (Nat.le_max_right _ _) hy hb fun ρ => by rw [← hxy, hs]
                    rw [if_pos rfl, if_pos this]
                  · have : y ≠ b := fun e => by
                      subst e
                      exact hxa (canon h (max x a) x a (Nat.le_max_left _ _) (Nat.le_max_right _ _) hx ha fun ρ => by rw [hxy, hs])
                    rw [if_neg hxa, if_neg this]
                    exact r2 x y hx hy hxy
                · rw [lookN_aputN, lookN_aputN, if_neg (by omega), if_neg (by omega)]; exact z2
                · rw [lookN_aputN, lookN_aputN, if_neg (by omega), if_neg (by omega)]; exact z2'

/-! functions -/
structure BF where
  nodes : List Nd
  one : Bool
  deriving DecidableEq, Inhabited

def BF.sem (f : BF) (ρ : Nat → Bool) : Bool := if f.nodes = [] then f.one else Bdd.sem f.nodes (f.nodes.length + 1) ρ

/-- The diagram of a function. -/
structure Can (K : Nat) (f : BF) : Prop where
  made : f.nodes ≠ [] → f.one = false ∧ ∃ ns r fu mm r', Tb K ns ∧ 2 ≤ r ∧ r < ns.length + 2 ∧ r < fu ∧ dfsF ns fu [(0, 0), (1, 1)] [] r = some (mm, f.nodes, r')
structure Gd (K : Nat) (f : BF) : Prop extends Can K f where
  len : f.nodes.length ≤ 256

structure Facts (K : Nat) (f : BF) : Prop where
  one : f.one = false
  tb : Tb K f.nodes
  reach : ∀ j, j < f.nodes.length → Reach f.nodes (f.nodes.length + 1) (j + 2)
  cap : f.nodes.length ≤ cap K 0

theorem Can.facts {K : Nat} {f : BF} (h : Can K f) (hn : f.nodes ≠ []) : Facts K f ∧ ∃ ns r fu mm r', Tb K ns ∧ 2 ≤ r ∧ r < ns.length + 2 ∧ dfsF ns fu [(0, 0), (1, 1)] [] r = some (mm, f.nodes, r') ∧ ∀ ρ, sem ns r ρ = f.sem ρ := by
  obtain ⟨h1, ns, r, fu, mm, r', h2, h3, h4, h5, h6⟩ := h.made hn
  obtain ⟨mm', out', r'', g1, g2, g3, g4, g5, g6, g7, g8, g9⟩ := dfs_spec h2 fu h5 memo0 h4
  rw [h6] at g1
  simp only [Option.some.injEq, Prod.mk.injEq] at g1
  obtain ⟨rfl, rfl, rfl⟩ := g1
  have hr : r' = f.nodes.length + 1 := g9 (by
    simp only [lookN]
    rw [if_neg (by omega), if_neg (by omega)])
  subst hr
  refine ⟨⟨h1, g2.tb, fun j hj => g8 j (by simp) hj, ?_⟩, ns, r, fu, mm, _, h2, h3, h4, h6, fun ρ => ?_⟩
  · have := cap_mono (K := K) (show 0 ≤ top ns r by omega)
    simp only [List.length_nil] at g7
    omega
  · obtain ⟨_, _, g10, _⟩ := g2.ok _ _ g4
    simp only [BF.sem]
    rw [if_neg hn, g10]

theorem Can.cap {K : Nat} {f : BF} (h : Can K f) : f.nodes.length ≤ Bdd.cap K 0 := by
  by_cases hn : f.nodes = []
  · rw [hn]; exact Nat.zero_le _
  · exact (h.facts hn).1.cap

/-- TWO ARE ONE JUST IF THEY ARE SO FOR EACH CHOICE. -/
theorem same_iff {K K' : Nat} {f g : BF} (hf : Can K f) (hg : Can K' g) : f = g ↔ ∀ ρ, f.sem ρ = g.sem ρ := by
  constructor
  · rintro rfl ρ; rfl
  · intro hs
    have nc : ∀ {K : Nat} {f : BF} {b : Bool}, Can K f → f.nodes ≠ [] → (∀ ρ, f.sem ρ = b) → False := by
      intro K f b hf hn hc
      obtain ⟨_, ns, r, fu, mm, r', h2, h3, h4, h5, h6⟩ := hf.facts hn
      cases b with
      | false =>
        have := canon h2.wf (max r 0) r 0 (Nat.le_max_left _ _) (Nat.le_max_right _ _) h4 (by omega) fun ρ => by rw [h6, hc, sem_zero]
        omega
      | true =>
        have := canon h2.wf (max r 1) r 1 (Nat.le_max_left _ _) (Nat.le_max_right _ _) h4 (by omega) fun ρ => by rw [h6, hc, sem_one]
        omega
    by_cases h1 : f.nodes = []
    · by_cases h2 : g.nodes = []
      · have := hs fun _ => false
        simp only [BF.sem, h1, h2, if_true] at this
        cases f; cases g; simp_all
      · exact (nc hg h2 (b := f.one) fun ρ => by rw [← hs]; simp only [BF.sem, h1, if_true]).elim
    · by_cases h2 : g.nodes = []
      · exact (nc hf h1 (b := g.one) fun ρ => by rw [hs]; simp only [BF.sem, h2, if_true]).elim
      · obtain ⟨p1, ns, r, fu, mm, r', p2, p3, p4, p5, p6⟩ := hf.facts h1
        obtain ⟨q1, ms, s, fu', nn, s', q2, q3, q4, q5, q6⟩ := hg.facts h2
        have hrel : Rel ns ms [(0, 0), (1, 1)] [(0, 0), (1, 1)] := by
          intro x y hx hy hxy
          have k0 : x = 0 ↔ y = 0 := ⟨fun e => by
              subst e
              exact canon q2.wf (max y 0) y 0 (Nat.le_max_left _ _) (Nat.le_max_right _ _) hy (by omega) fun ρ => by rw [← hxy, sem_zero, sem_zero], fun e => by
              subst e
              exact canon p2.wf (max x 0) x 0 (Nat.le_max_left _ _) (Nat.le_max_right _ _) hx (by omega) fun ρ => by rw [hxy, sem_zero, sem_zero]⟩
          have k1 : x = 1 ↔ y = 1 := ⟨fun e => by
              subst e
              exact canon q2.wf (max y 1) y 1 (Nat.le_max_left _ _) (Nat.le_max_right _ _) hy (by omega) fun ρ => by rw [← hxy, sem_one, sem_one], fun e => by
              subst e
              exact canon p2.wf (max x 1) x 1 (Nat.le_max_left _ _) (Nat.le_max_right _ _) hx (by omega) fun ρ => by rw [hxy, sem_one, sem_one]⟩
          simp only [lookN]
          by_cases e0 : x = 0
          · rw [if_pos e0, if_pos (k0.1 e0)]
          · rw [if_neg e0, if_neg (fun e => e0 (k0.2 e))]
            by_cases e1 : x = 1
            · rw [if_pos e1, if_pos (k1.1 e1)]
            · rw [if_neg e1, if_neg (fun e => e1 (k1.2 e))]
        have := (dfs_same p2.wf q2.wf fu fu' hrel (by simp [lookN]) (by simp [lookN]) p4 q4 (fun ρ => by rw [p6, q6, hs]) p5 q5).1
        have o1 := p1.one
        have o2 := q1.one
        cases f; cases g; simp_all

/-- What it hangs on are its variables. -/
theorem vars_iff {K : Nat} {f : BF} (hf : Can K f) (v : Nat) : (∃ n, n ∈ f.nodes ∧ n.v = v) ↔ ∃ ρ, f.sem (upd ρ v true) ≠ f.sem (upd ρ v false) := by
  by_cases h1 : f.nodes = []
  · constructor
    · rintro ⟨n, h, _⟩; rw [h1] at h; cases h
    · rintro ⟨ρ, h⟩; simp only [BF.sem, h1, if_true] at h; exact absurd rfl h
  · obtain ⟨h2, _⟩ := hf.facts h1
    have hl : 0 < f.nodes.length := List.length_pos_iff.2 h1
    simp only [BF.sem, h1, if_false]
    constructor
    · rintro ⟨n, hn, rfl⟩
      obtain ⟨j, hj⟩ := List.getElem?_of_mem hn
      exact (h2.reach j (List.getElem?_eq_some_iff.1 hj).1).hangs h2.tb.wf (by omega) (by omega) (by simpa using hj)
    · rintro ⟨ρ, hρ⟩
      refine Classical.byContradiction fun hc => hρ ?_
      have key : ∀ a, a < f.nodes.length + 2 → sem f.nodes a (upd ρ v true) = sem f.nodes a (upd ρ v false) := by
        intro a
        induction a using Nat.strongRecOn with
        | _ a ih =>
          intro ha
          by_cases ha2 : 2 ≤ a
          · obtain ⟨n, hn⟩ := h2.tb.wf.at ha2 ha
            have a1 := hn.lo
            have a2 := hn.hi
            have : n.v ≠ v := fun e => hc ⟨n, List.mem_of_getElem? hn.get, e⟩
            rw [hn.sem, hn.sem, upd_ne this, upd_ne this, ih n.lo a1 (by omega), ih n.hi a2 (by omega)]
          · match a, ha2 with
            | 0, _ => rw [sem_zero, sem_zero]
            | 1, _ => rw [sem_one, sem_one]
            | a + 2, ha => omega
      exact key _ (by omega)

def takeF (fu : Nat) (ns : List Nd) (r : Nat) : Option BF :=
  if r < 2 then some ⟨[], decide (r = 1)⟩ else
  match dfsF ns fu [(0, 0), (1, 1)] [] r with
  | none => none
  | some (_, out, _) => some (if 256 < out.length then ⟨[], true⟩ else ⟨out, false⟩)

/-- What is taken: the diagram of a function, or true if it is too great. -/
def Tkn (K : Nat) (f : BF) (g : (Nat → Bool) → Bool) : Prop := ∃ f0, Can K f0 ∧ (∀ ρ, f0.sem ρ = g ρ) ∧ f0.nodes.length ≤ cap K 0 ∧ f = if 256 < f0.nodes.length then ⟨[], true⟩ else f0
theorem Tkn.or {K : Nat} {f : BF} {g : (Nat → Bool) → Bool} (h : Tkn K f g) : (∀ ρ, f.sem ρ = g ρ) ∨ (f = ⟨[], true⟩ ∧ 256 < cap K 0) := by
  obtain ⟨f0, h1, h2, h3, rfl⟩ := h
  by_cases hl : 256 < f0.nodes.length
  · rw [if_pos hl]; exact .inr ⟨rfl, by omega⟩
  · rw [if_neg hl]; exact .inl h2
theorem Tkn.congr {K : Nat} {f : BF} {g g' : (Nat → Bool) → Bool} (h : Tkn K f g) (he : ∀ ρ, g ρ = g' ρ) : Tkn K f g' := by
  obtain ⟨f0, h1, h2, h3⟩ := h
  exact ⟨f0, h1, fun ρ => by rw [h2, he], h3⟩
theorem Tkn.eq {K K' : Nat} {f g : BF} {s : (Nat → Bool) → Bool} (h : Tkn K f s) (hg : Can K' g) (hs : ∀ ρ, g.sem ρ = s ρ) : f = if 256 < g.nodes.length then ⟨[], true⟩ else g := by
  obtain ⟨f0, h1, h2, h3, rfl⟩ := h
  have : f0 = g := (same_iff h1 hg).2 fun ρ => by rw [h2, hs]
  rw [this]
theorem can_const {K : Nat} {b : Bool} : Can K ⟨[], b⟩ := ⟨fun h => absurd rfl h⟩
theorem sem_const {b : Bool} {ρ : Nat → Bool} : BF.sem ⟨[], b⟩ ρ = b := by simp [BF.sem]

theorem take_spec {K : Nat} {ns : List Nd} (ht : Tb K ns) {r fu : Nat} (hr : r < ns.length + 2) (hf : r < fu) : ∃ f, takeF fu ns r = some f ∧ Gd K f ∧ Tkn K f (sem ns r) := by
  unfold takeF
  by_cases h2 : r < 2
  · rw [if_pos h2]
    refine ⟨_, rfl, ⟨can_const, by simp⟩, ⟨[], decide (r = 1)⟩, can_const, fun ρ => ?_, Nat.zero_le _, by rw [if_neg (by simp)]⟩
    match r, h2 with
    | 0, _ => simp [BF.sem, sem_zero]
    | 1, _ => simp [BF.sem, sem_one]
  · rw [if_neg h2]
    obtain ⟨mm', out', r', g1, g2, g3, g4, g5, g6, g7, g8, g9⟩ := dfs_spec ht fu hf memo0 hr
    rw [g1]
    have hc := cap_mono (K := K) (show 0 ≤ top ns r by omega)
    simp only [List.length_nil] at g7
    have hcan : Can K ⟨out', false⟩ := ⟨fun _ => ⟨rfl, ns, r, fu, mm', r', ht, by omega, hr, hf, g1⟩⟩
    refine ⟨_, rfl, ?_, ⟨out', false⟩, hcan, fun ρ => ?_, by show out'.length ≤ _; omega, rfl⟩
    · by_cases hl : 256 < out'.length
      · rw [if_pos hl]; exact ⟨can_const, by simp⟩
      · rw [if_neg hl]; exact ⟨hcan, by simp only; omega⟩
    · obtain ⟨_, k2, k3, _⟩ := g2.ok _ _ g4
      have hr' : r' = out'.length + 1 := g9 (by simp only [lookN]; rw [if_neg (by omega), if_neg (by omega)])
      by_cases hne : out' = []
      · subst hne
        simp only [List.length_nil] at hr' k2
        subst hr'
        obtain ⟨k1, _, _, _⟩ := g2.ok _ _ g4
        have := canon ht.wf (max r 1) r 1 (Nat.le_max_left _ _) (Nat.le_max_right _ _) hr (by omega) fun ρ => by rw [← k3, sem_one, sem_one]
        omega
      · simp only [BF.sem, hne, if_false]
        rw [← k3, hr']

/-! putting -/
def putL (ns : List Nd) (pl : List Nat) : List Nd → List Nd × List Nat
  | [] => (ns, pl)
  | n :: l => putL (mkN ns ⟨n.v, (pl[n.lo]?).getD 0, (pl[n.hi]?).getD 0⟩).2 (pl ++ [(mkN ns ⟨n.v, (pl[n.lo]?).getD 0, (pl[n.hi]?).getD 0⟩).1]) l

structure PutOk (K : Nat) (ns : List Nd) (pl : List Nat) (pre : List Nd) : Prop where
  tb : Tb K ns
  len : pl.length = pre.length + 2
  ok : ∀ x, x < pre.length + 2 → ∃ y, pl[x]? = some y ∧ y < ns.length + 2 ∧ (∀ ρ, sem ns y ρ = sem pre x ρ) ∧ top pre x ≤ top ns y

theorem putOk0 {K : Nat} {ns : List Nd} (ht : Tb K ns) : PutOk K ns [0, 1] [] where
  tb := ht
  len := rfl
  ok x hx := by
    match x, hx with
    | 0, _ => exact ⟨0, rfl, by omega, fun ρ => by rw [sem_zero, sem_zero], by rw [top_const (by omega), top_const (by omega)]; exact Nat.le_refl _⟩
    | 1, _ => exact ⟨1, rfl, by omega, fun ρ => by rw [sem_one, sem_one], by rw [top_const (by omega), top_const (by omega)]; exact Nat.le_refl _⟩

/-- One node more is put. -/
theorem PutOk.step {K : Nat} {ns : List Nd} {pl : List Nat} {pre : List Nd} (h : PutOk K ns pl pre) {n : Nd} (hn : Fit pre n) (hk : n.v < K) : ∃ x y, pl[n.lo]? = some x ∧ pl[n.hi]? = some y ∧ ns <+: (mkN ns ⟨n.v, x, y⟩).2 ∧ (mkN ns ⟨n.v, x, y⟩).2.length ≤ ns.length + 1 ∧ PutOk K (mkN ns ⟨n.v, x, y⟩).2 (pl ++ [(mkN ns ⟨n.v, x, y⟩).1]) (pre ++ [n]) := by
  obtain ⟨x, x1, x2, x3, x4⟩ := h.ok _ hn.lo
  obtain ⟨y, y1, y2, y3, y4⟩ := h.ok _ hn.hi
  have v1 := hn.vlo
  have v2 := hn.vhi
  have m := mkN_spec h.tb (n := ⟨n.v, x, y⟩) hk x2 y2 (by show n.v < top ns x; omega) (by show n.v < top ns y; omega)
  have hlen := h.len
  refine ⟨x, y, x1, y1, m.pre, m.cnt, m.tb, by simp [hlen], fun z hz => ?_⟩
  simp only [List.length_append, List.length_cons, List.length_nil] at hz
  by_cases hzl : z < pre.length + 2
  · obtain ⟨w, w1, w2, w3, w4⟩ := h.ok z hzl
    have := pre_len m.pre
    refine ⟨w, by rw [List.getElem?_append_left (by omega)]; exact w1, by omega, fun ρ => ?_, ?_⟩
    · rw [sem_pre m.pre w2, w3, sem_app hzl]
    · rw [top_app hzl, top_pre m.pre w2]; exact w4
  · obtain rfl : z = pre.length + 2 := by omega
    refine ⟨(mkN ns ⟨n.v, x, y⟩).1, by rw [List.getElem?_append_right (by omega), show pre.length + 2 - pl.length = 0 by omega]; rfl, m.val, fun ρ => ?_, ?_⟩
    · rw [m.sem, sem_snoc]
      simp only
      rw [x3, y3]
    · simp only [top]
      rw [if_neg (by omega), show pre.length + 2 - 2 = pre.length by omega, List.getElem?_append_right (Nat.le_refl _), Nat.sub_self]
      exact m.tp

end Go.Bdd
