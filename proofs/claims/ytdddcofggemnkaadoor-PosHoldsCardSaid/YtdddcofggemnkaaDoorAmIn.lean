/- An abstract machine for the part of Go that this program uses: what comes in from a claim's row. -/
import Derived.Test.YtdddcofggemnkaaDoorAmCode
import Derived.Test.YtdddcofggemnkaaDoorAmEval
import Derived.ChangeArms
import Derived.OpenShut
namespace Go.Am
set_option linter.all false
open Go

/-- All that lies there at first is written by nobody. -/
def fz0 (w : World) (b o : Nat) : Option Value :=
  match w.cell? ⟨b, o, none⟩ with
  | some v => if one v then some v else none
  | none => none
def sim0 (w : World) : Sim := ⟨fz0 w, fun _ => none, fun _ => False⟩

/-- Where a row begins. -/
def base0 (P : Program) (w : World) : Base := ⟨w, fun nt code c => okC P nt code c = true, fz0 w⟩

theorem fz0_some {w : World} {b o : Nat} {v : Value} : fz0 w b o = some v ↔ w.cell? ⟨b, o, none⟩ = some v ∧ one v = true := by
  unfold fz0
  cases h : w.cell? ⟨b, o, none⟩ with
  | none => simp
  | some u =>
    simp only [Option.some.injEq]
    by_cases hu : one u = true
    · simp only [hu, if_true, Option.some.injEq]
      constructor
      · intro e; subst e; exact ⟨rfl, hu⟩
      · intro e; exact e.1
    · simp only [hu, Bool.false_eq_true, if_false]
      constructor
      · intro e; cases e
      · rintro ⟨rfl, e'⟩; exact absurd e' hu

theorem mr0 (P : Program) (w : World) : MR (base0 P w) (sim0 w) ⟨[], none⟩ w where
  below := ⟨rfl, rfl, rfl, Nat.le_refl _, fun _ _ => rfl⟩
  fz := fun b o v h => fz0_some.1 h
  dom := fun _ _ => rfl
  obj := fun id o h => by simp at h
  inj := fun i j l l' b h => by cases h
  own := fun i l b h => by cases h
  defs := fun d h => h.elim
  old := fun b o v _ h => h

/-- An element of some cells. -/
def elemV : List AV → AV
  | [x] => x
  | xs => .agg xs

/-- What fits a type: the cells. -/
def Fits (P : Program) : Nat → TypeId → List AV → Prop
  | 0, _, _ => False
  | n + 1, t, xs => match P.underlying t with
    | some .bool => ∃ b, xs = [.bool b]
    | some (.int k) => ∃ i, xs = [.int k i] ∧ (Lit.int k i).wf = true
    | some .string => ∃ s : ByteArray, xs = [.str s] ∧ s.size ≤ reachBytes
    | some (.slice e) => ∃ ys : List AV, xs = [.list .shared (P.cellsOf e) ys] ∧ ys.length * P.bytesOf e ≤ reachBytes ∧ ys.length ≤ maxLen ∧ ∀ y, y ∈ ys → ∃ zs, y = elemV zs ∧ zs.length = P.cellsOf e ∧ Fits P n e zs
    | some (.struct fs) => xs.length = P.cellsOf t ∧ 1 < xs.length ∧ ∀ (i : Nat) (f : Field), fs[i]? = some f → Fits P n f.type ((xs.drop f.offset).take (P.cellsOf f.type))
    | some (.array k e) => xs.length = P.cellsOf t ∧ 1 < xs.length ∧ ∀ i, i < k → Fits P n e ((xs.drop (i * P.cellsOf e)).take (P.cellsOf e))
    | _ => False

theorem Fits.bool {P : Program} {n : Nat} {t : TypeId} {xs : List AV} (hu : P.underlying t = some .bool) (h : Fits P n t xs) : ∃ b, xs = [.bool b] := by
  cases n with
  | zero => exact h.elim
  | succ n => unfold Fits at h; rw [hu] at h; exact h
theorem Fits.int {P : Program} {n : Nat} {t : TypeId} {k : IntKind} {xs : List AV} (hu : P.underlying t = some (.int k)) (h : Fits P n t xs) : ∃ i, xs = [.int k i] ∧ (Lit.int k i).wf = true := by
  cases n with
  | zero => exact h.elim
  | succ n => unfold Fits at h; rw [hu] at h; exact h
theorem Fits.str {P : Program} {n : Nat} {t : TypeId} {xs : List AV} (hu : P.underlying t = some .string) (h : Fits P n t xs) : ∃ s : ByteArray, xs = [.str s] ∧ s.size ≤ reachBytes := by
  cases n with
  | zero => exact h.elim
  | succ n => unfold Fits at h; rw [hu] at h; exact h
theorem Fits.slice {P : Program} {n : Nat} {t e : TypeId} {xs : List AV} (hu : P.underlying t = some (.slice e)) (h : Fits P n t xs) : ∃ ys : List AV, xs = [.list .shared (P.cellsOf e) ys] ∧ ys.length * P.bytesOf e ≤ reachBytes ∧ ys.length ≤ maxLen ∧ ∀ y, y ∈ ys → ∃ zs, y = elemV zs ∧ zs.length = P.cellsOf e ∧ Fits P (n - 1) e zs := by
  cases n with
  | zero => exact h.elim
  | succ n => unfold Fits at h; rw [hu] at h; exact h
theorem Fits.struct {P : Program} {n : Nat} {t : TypeId} {fs : Array Field} {xs : List AV} (hu : P.underlying t = some (.struct fs)) (h : Fits P n t xs) : xs.length = P.cellsOf t ∧ ∀ (i : Nat) (f : Field), fs[i]? = some f → Fits P (n - 1) f.type ((xs.drop f.offset).take (P.cellsOf f.type)) := by
  cases n with
  | zero => exact h.elim
  | succ n => unfold Fits at h; rw [hu] at h; exact ⟨h.1, h.2.2⟩

theorem Fits.array {P : Program} {n : Nat} {t e : TypeId} {k : Nat} {xs : List AV} (hu : P.underlying t = some (.array k e)) (h : Fits P n t xs) : xs.length = P.cellsOf t ∧ ∀ i, i < k → Fits P (n - 1) e ((xs.drop (i * P.cellsOf e)).take (P.cellsOf e)) := by
  cases n with
  | zero => exact h.elim
  | succ n => unfold Fits at h; rw [hu] at h; exact ⟨h.1, h.2.2⟩

/-- Where fields end that lie one behind the other. -/
def offsB (P : Program) (ts : List TypeId) : Nat → List Field → Option Nat
  | o, [] => some o
  | o, f :: fs => if f.offset = o ∧ ts.contains f.type = true then offsB P ts (o + P.cellsOf f.type) fs else none

/-- Types that are read so. -/
def plainT (P : Program) (ts : List TypeId) (t : TypeId) : Bool :=
  match P.underlying t with
  | some .bool | some (.int _) | some .string => true
  | some (.slice e) => ts.contains e && decide (0 < P.cellsOf e)
  | some (.struct fs) => decide (offsB P ts 0 fs.toList = some (P.cellsOf t)) && decide (1 < P.cellsOf t)
  | some (.array k e) => ts.contains e && decide (k * P.cellsOf e = P.cellsOf t) && decide (1 < P.cellsOf t)
  | _ => false

theorem Fits.solid {P : Program} {n : Nat} {t : TypeId} {xs : List AV} (h : Fits P n t xs) : (elemV xs).cells = xs := by
  cases n with
  | zero => exact h.elim
  | succ n =>
    unfold Fits at h
    split at h
    · obtain ⟨b, rfl⟩ := h; rfl
    · obtain ⟨i, rfl, _⟩ := h; rfl
    · obtain ⟨s, rfl, _⟩ := h; rfl
    · obtain ⟨ys, rfl, _⟩ := h; rfl
    · obtain ⟨_, h, _⟩ := h
      match xs, h with
      | x :: y :: xs, _ => rfl
    · obtain ⟨_, h, _⟩ := h
      match xs, h with
      | x :: y :: xs, _ => rfl
    · exact h.elim

theorem mem_weightsAll {H : Type} {P : Program} {e : TypeId} {d : DataW H} {x : Nat} : ∀ {ds : List (DataW H)}, d ∈ ds → x ∈ d.weights P e → x ∈ DataW.weightsAll P e ds := by
  intro ds
  induction ds with
  | nil => intro h; cases h
  | cons y ys ih =>
    intro h hx
    unfold DataW.weightsAll
    rcases List.mem_cons.1 h with rfl | h
    · exact List.mem_append_left _ hx
    · exact List.mem_append_right _ (ih h hx)

theorem mem_weightsEach {H : Type} {P : Program} {x : Nat} : ∀ {ts : List TypeId} {ds : List (DataW H)} {i : Nat} {t : TypeId} {d : DataW H}, ts[i]? = some t → ds[i]? = some d → x ∈ d.weights P t → x ∈ DataW.weightsEach P ts ds := by
  intro ts
  induction ts with
  | nil => intro ds i t d h; simp at h
  | cons u ts ih =>
    intro ds i t d h1 h2 h3
    cases ds with
    | nil => simp at h2
    | cons e ds =>
      unfold DataW.weightsEach
      cases i with
      | zero =>
        simp only [List.getElem?_cons_zero, Option.some.injEq] at h1 h2
        subst h1; subst h2
        exact List.mem_append_left _ h3
      | succ i =>
        simp only [List.getElem?_cons_succ] at h1 h2
        exact List.mem_append_right _ (ih h1 h2 h3)

section
variable {H : Type} {enc : TypeId × Value → H} {P : Program} {w : World} {held : Bool} {ts : List TypeId}

theorem offsB_le {ts : List TypeId} : ∀ {fl : List Field} {o e : Nat}, offsB P ts o fl = some e → o ≤ e := by
  intro fl
  induction fl with
  | nil => intro o e h; simp only [offsB, Option.some.injEq] at h; omega
  | cons f fl ih =>
    intro o e h
    simp only [offsB] at h
    split at h
    · have := ih h; omega
    · cases h
/-- An array's element, as if it were a field. -/
def elemF (e : TypeId) (c i : Nat) : Field := { name := "", type := e, offset := i * c, embedded := false, tag := "", pkgPath := "", byteOffset := 0 }
theorem offsB_elems {ts : List TypeId} {e : TypeId} (he : e ∈ ts) : ∀ (k s : Nat), offsB P ts (s * P.cellsOf e) ((List.range' s k).map (elemF e (P.cellsOf e))) = some ((s + k) * P.cellsOf e) := by
  intro k
  induction k with
  | zero => intro s; simp [offsB]
  | succ k ih =>
    intro s
    rw [List.range'_succ, List.map_cons]
    simp only [offsB]
    rw [if_pos ⟨rfl, List.contains_iff_mem.2 he⟩]
    have h2 : s * P.cellsOf e + P.cellsOf (elemF e (P.cellsOf e) s).type = (s + 1) * P.cellsOf e := by rw [Nat.succ_mul]; rfl
    rw [h2, ih (s + 1)]
    congr 2
    omega
theorem fields_fit {n : Nat} {cs : List Value} (ih : ∀ (t : TypeId) (ds : List Value), t ∈ ts → (∃ i j, ds = (cs.drop i).take j ∧ True) → ∀ x : DataW H × List MemPlace, DataW.trod enc P w 0 (fun _ => true) held n t ds = some x → (∀ q, q ∈ x.1.weights P t → q ≤ reachBytes) →
      ∃ xs : List AV, xs.length = ds.length ∧ (∀ (j : Nat) (y : AV) (v : Value), xs[j]? = some y → ds[j]? = some v → VR (sim0 w) y v ∧ one v = true) ∧ Fits P n t xs) :
    ∀ (fl : List Field) (o e : Nat), offsB P ts o fl = some e → e ≤ cs.length → (∀ (i : Nat) (f : Field), fl[i]? = some f → ∃ x : DataW H × List MemPlace, DataW.trod enc P w 0 (fun _ => true) held n f.type ((cs.drop f.offset).take (P.cellsOf f.type)) = some x ∧ ∀ q, q ∈ x.1.weights P f.type → q ≤ reachBytes) →
      ∃ xs : List AV, xs.length + o = e ∧ (∀ (j : Nat) (y : AV) (v : Value), xs[j]? = some y → cs[o + j]? = some v → VR (sim0 w) y v ∧ one v = true) ∧ ∀ (i : Nat) (f : Field), fl[i]? = some f → o ≤ f.offset ∧ Fits P n f.type ((xs.drop (f.offset - o)).take (P.cellsOf f.type)) := by
  intro fl
  induction fl with
  | nil =>
    intro o e h _ _
    simp only [offsB, Option.some.injEq] at h
    exact ⟨[], by simpa using h, fun j y v h => by simp at h, fun i f h => by simp at h⟩
  | cons f fl ihf =>
    intro o e h he hx
    simp only [offsB] at h
    split at h
    · rename_i hf
      obtain ⟨hfo, hft⟩ := hf
      have hle := offsB_le h
      obtain ⟨x, x1, x2⟩ := hx 0 f rfl
      obtain ⟨ys, y1, y2, y3⟩ := ih f.type _ (List.contains_iff_mem.1 hft) ⟨_, _, rfl, trivial⟩ x x1 x2
      obtain ⟨zs, z1, z2, z3⟩ := ihf _ e h he fun i g hg => hx (i + 1) g (by simpa using hg)
      have hyl : ys.length = P.cellsOf f.type := by rw [y1, List.length_take, List.length_drop]; omega
      refine ⟨ys ++ zs, by simp; omega, fun j y v hj hv => ?_, fun i g hg => ?_⟩
      · by_cases hjl : j < ys.length
        · rw [List.getElem?_append_left hjl] at hj
          refine y2 j y v hj ?_
          rw [List.getElem?_take_of_lt (by omega), List.getElem?_drop, hfo]
          exact hv
        · rw [List.getElem?_append_right (by omega)] at hj
          refine z2 _ y v hj ?_
          rw [show o + P.cellsOf f.type + (j - ys.length) = o + j by omega]
          exact hv
      · cases i with
        | zero =>
          simp only [List.getElem?_cons_zero, Option.some.injEq] at hg
          subst hg
          refine ⟨by omega, ?_⟩
          rw [show f.offset - o = 0 by omega, List.drop_zero, ← hyl, List.take_left]
          exact y3
        | succ i =>
          obtain ⟨g1, g2⟩ := z3 i g (by simpa using hg)
          refine ⟨by omega, ?_⟩
          rw [show g.offset - o = ys.length + (g.offset - (o + P.cellsOf f.type)) by omega, List.drop_append]
          rw [List.drop_of_length_le (by omega), List.nil_append, show ys.length + (g.offset - (o + P.cellsOf f.type)) - ys.length = g.offset - (o + P.cellsOf f.type) by omega]
          exact g2
    · cases h

/-- WHAT A ROW READS, THE MACHINE KNOWS. -/
theorem trod_fits (hts : ts.all (plainT P ts) = true) : ∀ (fuel : Nat) (t : TypeId) (cs : List Value) (x : DataW H × List MemPlace), t ∈ ts → DataW.trod enc P w 0 (fun _ => true) held fuel t cs = some x → (∀ q, q ∈ x.1.weights P t → q ≤ reachBytes) →
    ∃ xs : List AV, xs.length = cs.length ∧ (∀ (j : Nat) (y : AV) (v : Value), xs[j]? = some y → cs[j]? = some v → VR (sim0 w) y v ∧ one v = true) ∧ Fits P fuel t xs := by
  intro fuel
  induction fuel with
  | zero => intro t cs x _ h; simp [DataW.trod] at h
  | succ n ih =>
    intro t cs x ht h hw
    have hp : plainT P ts t = true := List.all_eq_true.1 hts t ht
    unfold plainT at hp
    have one1 : ∀ {y : AV} {v : Value}, VR (sim0 w) y v → one v = true → ∀ (j : Nat) (y' : AV) (v' : Value), [y][j]? = some y' → [v][j]? = some v' → VR (sim0 w) y' v' ∧ one v' = true := by
      intro y v h1 h2 j y' v' h3 h4
      cases j with
      | zero => simp only [List.getElem?_cons_zero, Option.some.injEq] at h3 h4; subst h3; subst h4; exact ⟨h1, h2⟩
      | succ j => simp at h3
    split at hp
    · rename_i hu
      obtain ⟨b, rfl, rfl⟩ := DataW.trod_bool hu h
      exact ⟨[.bool b], rfl, one1 (.bool b) rfl, by unfold Fits; rw [hu]; exact ⟨b, rfl⟩⟩
    · rename_i k hu
      obtain ⟨i, rfl, rfl, hwf⟩ := DataW.trod_int hu h
      exact ⟨[.int k i], rfl, one1 (.int k i) rfl, by unfold Fits; rw [hu]; exact ⟨i, rfl, hwf⟩⟩
    · rename_i hu
      obtain ⟨s, rfl, rfl, _⟩ := DataW.trod_string hu h
      have h1 := hw s.data.toList.length (by unfold DataW.weights; simp)
      have h2 : s.size ≤ reachBytes := by simpa using h1
      refine ⟨[.str s], rfl, one1 (.str s) rfl, ?_⟩
      unfold Fits; rw [hu]
      exact ⟨s, rfl, h2⟩
    · rename_i e hu
      simp only [Bool.and_eq_true, List.contains_iff_mem, decide_eq_true_eq] at hp
      obtain ⟨he, hk⟩ := hp
      rcases DataW.trod_slice hu h with ⟨rfl, rfl⟩ | ⟨a, len, cap, elems, rest, m, hm, rfl, rfl, hb, hl, hc, hel, hget, hsp, _⟩
      · refine ⟨[.list .shared (P.cellsOf e) []], rfl, one1 (.nil .shared _ trivial) rfl, ?_⟩
        unfold Fits; rw [hu]
        exact ⟨[], rfl, by simp, by simp, fun y hy => by cases hy⟩
      · obtain rfl : m = n := by omega
        have hwt : ∀ q, q ∈ (elems.length + rest.length) * P.bytesOf e :: (DataW.weightsAll P e (elems.map (·.1)) ++ DataW.weightsAll P e (rest.map (·.1))) → q ≤ reachBytes := by
          intro q hq
          apply hw q
          unfold DataW.weights
          simp only [hu, List.length_map]
          exact hq
        have each : ∀ i : Nat, i < len → ∃ zs : List AV, ∃ cs' : List Value, w.cells? 0 (a.add (i * P.cellsOf e)) (P.cellsOf e) = some cs' ∧ zs.length = P.cellsOf e ∧
            (∀ (j : Nat) (y : AV) (v : Value), zs[j]? = some y → cs'[j]? = some v → VR (sim0 w) y v ∧ one v = true) ∧ Fits P m e zs := by
          intro i hi
          have h1 := hget i hi
          rw [List.getElem?_eq_getElem (by omega), Option.bind_eq_some_iff] at h1
          obtain ⟨cs', h2, h3⟩ := h1
          obtain ⟨zs, z1, z2, z3⟩ := ih e cs' _ he h3 (fun q hq => hwt q (List.mem_cons_of_mem _ (List.mem_append_left _ (mem_weightsAll (List.mem_map.2 ⟨_, List.getElem_mem _, rfl⟩) hq))))
          exact ⟨zs, cs', h2, by rw [z1]; exact (World.cells?_some h2).2.1, z2, z3⟩
        have hch : ∃ g : Nat → List AV, ∃ c : Nat → List Value, ∀ i, i < len → w.cells? 0 (a.add (i * P.cellsOf e)) (P.cellsOf e) = some (c i) ∧ (g i).length = P.cellsOf e ∧
            (∀ (j : Nat) (y : AV) (v : Value), (g i)[j]? = some y → (c i)[j]? = some v → VR (sim0 w) y v ∧ one v = true) ∧ Fits P m e (g i) := by
          refine ⟨fun i => if h : i < len then (each i h).choose else [], fun i => if h : i < len then (each i h).choose_spec.choose else [], fun i hi => ?_⟩
          simp only [hi, dif_pos]
          exact (each i hi).choose_spec.choose_spec
        obtain ⟨g, c, hgc⟩ := hch
        let ys := (List.range len).map fun i => elemV (g i)
        have hyl : ys.length = len := by simp [ys]
        have hyi : ∀ (i : Nat) (y : AV), ys[i]? = some y → i < len ∧ y = elemV (g i) := by
          intro i y hy
          have hi : i < len := by rw [← hyl]; exact (List.getElem?_eq_some_iff.1 hy).1
          simp only [ys, List.getElem?_map, List.getElem?_range hi, Option.map_some, Option.some.injEq] at hy
          exact ⟨hi, hy.symm⟩
        have hfits : Fits P (m + 1) t [.list .shared (P.cellsOf e) ys] := by
          unfold Fits; rw [hu]
          refine ⟨ys, rfl, ?_, by omega, ?_⟩
          · have := hwt _ List.mem_cons_self
            rw [hyl, ← hel]
            refine Nat.le_trans ?_ this
            exact Nat.mul_le_mul_right _ (by omega)
          · intro y hy
            obtain ⟨i, hi⟩ := List.getElem?_of_mem hy
            obtain ⟨h1, rfl⟩ := hyi i y hi
            obtain ⟨_, h2, _, h3⟩ := hgc i h1
            exact ⟨g i, rfl, h2, h3⟩
        refine ⟨[.list .shared (P.cellsOf e) ys], rfl, one1 ?_ rfl, hfits⟩
        by_cases hcap : cap = 0
        · have hl0 : len = 0 := by omega
          subst hcap; subst hl0
          exact .void _ a
        · have hspot : a.spot = none ∨ len = 0 := by
            by_cases h0 : len = 0
            · exact .inr h0
            · left
              obtain ⟨h1, h2, _⟩ := hgc 0 (by omega)
              obtain ⟨_, h4, h5⟩ := World.cells?_some h1
              have h6 := h5 0 hk
              have h7 : a.add (0 * P.cellsOf e) = a := by simp [Addr.add]
              rw [h7] at h6
              have h8 : a.add 0 = a := by simp [Addr.add]
              rw [h8, List.getElem?_eq_getElem (by omega)] at h6
              unfold World.cell? at h6
              split at h6
              · split at h6
                · cases h6
                · rename_i hs; simpa using hs
              · cases h6
          have hspot' : a.spot = none := by
            rcases hspot with h | h0
            · exact h
            · obtain ⟨hr1, hr2⟩ := hsp rfl
              have h1 := hr2 0 (by omega)
              rw [List.getElem?_eq_getElem (by omega), Option.bind_eq_some_iff] at h1
              obtain ⟨cs', h2, _⟩ := h1
              obtain ⟨_, h4, h5⟩ := World.cells?_some h2
              have h6 := h5 0 hk
              have h7 : a.add ((len + 0) * P.cellsOf e) = a := by simp [Addr.add, h0]
              have h8 : a.add 0 = a := by simp [Addr.add]
              rw [h7, h8, List.getElem?_eq_getElem (by omega)] at h6
              unfold World.cell? at h6
              split at h6
              · split at h6
                · cases h6
                · rename_i hs; simpa using hs
              · cases h6
          obtain ⟨b, o, sp⟩ := a
          simp only at hspot'
          subst hspot'
          have hcell : ∀ (i j : Nat), i < len → j < P.cellsOf e → w.cell? ⟨b, o + i * P.cellsOf e + j, none⟩ = (c i)[j]? := by
            intro i j hi hj
            obtain ⟨h1, _⟩ := hgc i hi
            obtain ⟨_, _, h5⟩ := World.cells?_some h1
            have := h5 j hj
            rw [Addr.add_lit, Addr.add_lit] at this
            exact this
          have := VR.list (s := sim0 w) .shared (P.cellsOf e) ys b o cap (fun i j => ((c i)[j]?).getD (.bool false)) (by omega)
            (fun i y hy => by
              obtain ⟨h1, rfl⟩ := hyi i y hy
              obtain ⟨_, h2, _, h3⟩ := hgc i h1
              rw [h3.solid, h2])
            (fun i y j z hy hz => by
              obtain ⟨h1, rfl⟩ := hyi i y hy
              obtain ⟨h2, h3, h4, h5⟩ := hgc i h1
              rw [h5.solid] at hz
              have hj : j < P.cellsOf e := by rw [← h3]; exact (List.getElem?_eq_some_iff.1 hz).1
              have hcl := (World.cells?_some h2).2.1
              have hcj : (c i)[j]? = some (c i)[j] := List.getElem?_eq_getElem (by omega)
              refine fz0_some.2 ?_
              rw [hcell i j h1 hj, hcj]
              exact ⟨rfl, (h4 j z _ hz hcj).2⟩)
            (fun i y j z hy hz => by
              obtain ⟨h1, rfl⟩ := hyi i y hy
              obtain ⟨h2, h3, h4, h5⟩ := hgc i h1
              rw [h5.solid] at hz
              have hj : j < P.cellsOf e := by rw [← h3]; exact (List.getElem?_eq_some_iff.1 hz).1
              have hcl := (World.cells?_some h2).2.1
              have hcj : (c i)[j]? = some (c i)[j] := List.getElem?_eq_getElem (by omega)
              simp only [hcj, Option.getD_some]
              exact (h4 j z _ hz hcj).1)
            (fun t ht => by cases ht) trivial
          rwa [hyl] at this
    · rename_i fs hu
      simp only [Bool.and_eq_true, decide_eq_true_eq] at hp
      obtain ⟨hof, h1⟩ := hp
      obtain ⟨xs, m, hm, rfl, hl, hxl, hxs⟩ := DataW.trod_struct hu h
      obtain rfl : m = n := by omega
      obtain ⟨ys, y1, y2, y3⟩ := fields_fit (enc := enc) (w := w) (held := held) (cs := cs) (fun t ds ht _ x hx hq => ih t ds x ht hx hq) fs.toList 0 _ hof (by omega) fun i f hf => by
        have hf' : fs[i]? = some f := by simpa using hf
        have hi : i < fs.size := (Array.getElem?_eq_some_iff.1 hf').1
        have hx := hxs i f hf'
        rw [List.getElem?_eq_getElem (by omega)] at hx
        refine ⟨_, hx, fun q hq => hw q ?_⟩
        unfold DataW.weights
        simp only [hu]
        refine mem_weightsEach (i := i) (t := f.type) (d := (xs[i]'(by omega)).1) ?_ ?_ hq
        · rw [List.getElem?_map, hf]; rfl
        · rw [List.getElem?_map, List.getElem?_eq_getElem (by omega)]; rfl
      refine ⟨ys, by omega, fun j y v hj hv => y2 j y v hj (by rw [Nat.zero_add]; exact hv), ?_⟩
      unfold Fits; rw [hu]
      exact ⟨by omega, by omega, fun i f hf => by simpa using (y3 i f (by simpa using hf)).2⟩
    · rename_i k e hu
      simp only [Bool.and_eq_true, List.contains_iff_mem, decide_eq_true_eq] at hp
      obtain ⟨⟨he, hke⟩, h1⟩ := hp
      obtain ⟨xs, m, hm, rfl, hl, hxl, hxs⟩ := DataW.trod_array hu h
      obtain rfl : m = n := by omega
      have hfl : ∀ (i : Nat) (f : Field), ((List.range' 0 k).map (elemF e (P.cellsOf e)))[i]? = some f → i < k ∧ f = elemF e (P.cellsOf e) i := by
        intro i f hf
        have hi : i < k := by have := (List.getElem?_eq_some_iff.1 hf).1; simpa using this
        rw [List.getElem?_map, List.getElem?_range' hi] at hf
        simp only [Option.map_some, Option.some.injEq, Nat.zero_add, Nat.one_mul] at hf
        exact ⟨hi, hf.symm⟩
      obtain ⟨ys, y1, y2, y3⟩ := fields_fit (enc := enc) (w := w) (held := held) (cs := cs) (fun t ds ht _ x hx hq => ih t ds x ht hx hq) ((List.range' 0 k).map (elemF e (P.cellsOf e))) (0 * P.cellsOf e) _ (offsB_elems he k 0) (by rw [Nat.zero_add]; omega) fun i f hf => by
        obtain ⟨hi, rfl⟩ := hfl i f hf
        have hx := hxs i hi
        rw [List.getElem?_eq_getElem (by omega)] at hx
        refine ⟨_, hx, fun q hq => hw q ?_⟩
        unfold DataW.weights
        simp only [hu]
        exact mem_weightsAll (List.mem_map.2 ⟨_, List.getElem_mem _, rfl⟩) hq
      rw [Nat.zero_add, Nat.zero_mul, Nat.add_zero] at y1
      refine ⟨ys, by omega, fun j y v hj hv => y2 j y v hj (by rw [Nat.zero_mul, Nat.zero_add]; exact hv), ?_⟩
      unfold Fits; rw [hu]
      refine ⟨by omega, by omega, fun i hi => ?_⟩
      have := (y3 i (elemF e (P.cellsOf e) i) (by rw [List.getElem?_map, List.getElem?_range' hi]; simp)).2
      simpa [elemF] using this
    · cases hp
end

def okc0 (P : Program) : Nat → Code → C → Prop := fun nt code c => okC P nt code c = true

/-- A table of no arguments' answer. -/
def orc0 (r : AV) : List AV → Mem → Option (AV × Mem)
  | [], M => some (r, M)
  | _, _ => none

/-- A table of calls that were evaluated: arguments, answer. -/
def orcT (t : List (List AV × AV)) (args : List AV) (M : Mem) : Option (AV × Mem) :=
  match t with
  | [] => none
  | (a, r) :: t => if AV.beqs a args then some (r, M) else orcT t args M

/-- A law that the machine finds true is true. -/
theorem law_calls {P : Program} {W : World} (hmix : P.follows .mixedOrders = true) {T : Nat → Option IFn} (hT : ∀ f fn, T f = some fn → okFn P f fn = true) (hO : ∀ f fn, T f = some fn → OrcSound P (okc0 P) f fn) {f : Nat} {args : List AV} {vs : List Value} {M' : Mem}
    (hf : f < yb) (h : Am.Call T f args ⟨[], none⟩ = some (.bool true, M')) (hl : args.length = vs.length) (hv : ∀ (i : Nat) (x : AV) (v : Value), args[i]? = some x → vs[i]? = some v → VR (sim0 W) x v) :
    Calls P f vs.toArray W fun e W' => e = .returned (.bool true) ∧ RowKit.Below W.heap.size W W' := by
  obtain ⟨n, hn⟩ := call_some.1 h
  refine (((callN_sound (w0 := base0 P W) hmix hT hO (fun _ _ _ => Iff.rfl) n f args _ _ _ hn).1 hf).2 (sim0 W) W vs (mr0 P W) hl hv).mono fun e W' ⟨v, s', he, _, hr, hm⟩ => ?_
  cases hr
  exact ⟨he, hm.below⟩

end Go.Am
