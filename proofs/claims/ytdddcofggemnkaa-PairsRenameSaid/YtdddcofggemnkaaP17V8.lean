/- What renamed pairs are, in plain words. -/
import Derived.Test.YtdddcofggemnkaaP17V7
namespace Go.Proofs.P17
set_option linter.all false
open Go Go.Am

theorem ord_goods {ps : List (Int × Int)} : ∀ p ∈ goods ps, 0 ≤ p.1 ∧ p.1 < p.2 := fun _ h => (goods_mem.1 h).elim fun _ h => ⟨h.2.2.1, h.2.2.2⟩
theorem ofP_sorted {ps : List (Int × Int)} : (ofP ps).Pairwise (fun a b => leP a b = true ∧ a ≠ b) ∧ ∀ x, x ∈ ofP ps ↔ x ∈ goods ps := by
  obtain ⟨h1, h2⟩ := comp_sorted (l := sortP (goods ps)) (List.pairwise_mergeSort leP_trans leP_total _)
  exact ⟨h1, fun x => (h2 x).trans (List.mem_mergeSort)⟩
theorem formP_of {l : List (Int × Int)} (hs : l.Pairwise fun a b => leP a b = true ∧ a ≠ b) (hg : ∀ p ∈ l, 0 ≤ p.1 ∧ p.1 < p.2) : FormP l := by
  intro i p hp
  obtain ⟨h1, h2⟩ := hg p (List.mem_of_getElem? hp)
  refine ⟨h1, h2, ?_⟩
  intro q hi hq
  obtain ⟨hil, rfl⟩ := List.getElem?_eq_some_iff.1 hp
  obtain ⟨hil', rfl⟩ := List.getElem?_eq_some_iff.1 hq
  obtain ⟨h3, h4⟩ := (List.pairwise_iff_getElem.1 hs) (i - 1) i hil' hil (by omega)
  have h5 : l[i - 1].1 < l[i].1 ∨ l[i - 1].1 = l[i].1 ∧ l[i - 1].2 ≤ l[i].2 := by
    simp only [leP, decide_eq_true_eq] at h3
    exact h3
  have h6 : ¬ (l[i - 1].1 = l[i].1 ∧ l[i - 1].2 = l[i].2) := fun e => h4 (Prod.ext e.1 e.2)
  omega
theorem ofP_form {ps : List (Int × Int)} : FormP (ofP ps) := formP_of ofP_sorted.1 fun p hp => ord_goods p ((ofP_sorted.2 p).1 hp)

theorem hasP_iff {ps : List (Int × Int)} {a b : Int} : hasP ps a b = true ↔ (a, b) ∈ ps ∨ (b, a) ∈ ps := by
  unfold hasP
  rw [List.any_eq_true]
  constructor
  · rintro ⟨p, hp, h⟩
    rcases Bool.or_eq_true_iff.1 h with h | h
    · obtain ⟨h1, h2⟩ := Bool.and_eq_true_iff.1 h
      have h1 := of_decide_eq_true h1
      have h2 := of_decide_eq_true h2
      subst h1 h2
      exact .inl hp
    · obtain ⟨h1, h2⟩ := Bool.and_eq_true_iff.1 h
      have h1 := of_decide_eq_true h1
      have h2 := of_decide_eq_true h2
      subst h1 h2
      exact .inr hp
  · rintro (h | h)
    · exact ⟨_, h, by simp⟩
    · exact ⟨_, h, by simp⟩
theorem hasR_iff {ps : List (Int × Int)} {a b : Int} : hasR ps a b = true ↔ 0 ≤ a ∧ 0 ≤ b ∧ a ≠ b ∧ ((a, b) ∈ ps ∨ (b, a) ∈ ps) := by
  unfold hasR
  rw [Bool.and_eq_true_iff, hasP_iff]
  simp only [Bool.not_eq_true', Bool.or_eq_false_iff, decide_eq_false_iff_not]
  constructor
  · rintro ⟨⟨⟨h1, h2⟩, h3⟩, h4⟩; exact ⟨by omega, by omega, h3, h4⟩
  · rintro ⟨h1, h2, h3, h4⟩; exact ⟨⟨⟨by omega, by omega⟩, h3⟩, h4⟩
theorem hasR_goods {ps : List (Int × Int)} {a b : Int} : hasR ps a b = true ↔ (min a b, max a b) ∈ goods ps := by
  rw [hasR_iff, goods_mem]
  constructor
  · rintro ⟨h1, h2, h3, h4 | h4⟩
    · exact ⟨_, h4, rfl, by show 0 ≤ min a b; omega, by show min a b < max a b; omega⟩
    · refine ⟨_, h4, ?_, by show 0 ≤ min a b; omega, by show min a b < max a b; omega⟩
      show (min a b, max a b) = (min b a, max b a)
      rw [Int.min_comm, Int.max_comm]
  · rintro ⟨q, hq, he, h1, h2⟩
    have h3 := congrArg Prod.fst he
    have h4 := congrArg Prod.snd he
    replace h1 : 0 ≤ min a b := h1
    replace h2 : min a b < max a b := h2
    replace h3 : min a b = min q.1 q.2 := h3
    replace h4 : max a b = max q.1 q.2 := h4
    refine ⟨by omega, by omega, by omega, ?_⟩
    by_cases h5 : q.1 = a
    · have h6 : q.2 = b := by omega
      subst h5 h6
      exact .inl hq
    · have h6 : q.1 = b := by omega
      have h7 : q.2 = a := by omega
      subst h6 h7
      exact .inr hq
theorem hasR_of {ps qs : List (Int × Int)} (h : ∀ x, x ∈ qs ↔ x ∈ goods ps) {a b : Int} : hasR qs a b = hasR ps a b := by
  apply Bool.eq_iff_iff.2
  rw [hasR_goods (ps := ps), hasR_iff, h, h]
  constructor
  · rintro ⟨h1, h2, h3, h4 | h4⟩
    · have := (ord_goods _ h4).2
      replace this : a < b := this
      rw [show min a b = a by omega, show max a b = b by omega]; exact h4
    · have := (ord_goods _ h4).2
      replace this : b < a := this
      rw [show min a b = b by omega, show max a b = a by omega]; exact h4
  · intro h1
    have h2 := ord_goods _ h1
    replace h2 : 0 ≤ min a b ∧ min a b < max a b := h2
    refine ⟨by omega, by omega, by omega, ?_⟩
    by_cases h3 : a < b
    · rw [show min a b = a by omega, show max a b = b by omega] at h1; exact .inl h1
    · rw [show min a b = b by omega, show max a b = a by omega] at h1; exact .inr h1
theorem hasR_ofP {ps : List (Int × Int)} {a b : Int} : hasR (ofP ps) a b = hasR ps a b := hasR_of ofP_sorted.2
theorem ofP_hasR {ps : List (Int × Int)} {p : Int × Int} (h : p ∈ ofP ps) : hasR ps p.1 p.2 = true := by
  have h1 := (ofP_sorted.2 p).1 h
  have h2 := ord_goods p h1
  rw [hasR_goods, show min p.1 p.2 = p.1 by omega, show max p.1 p.2 = p.2 by omega]
  exact h1

/-- What the document says the renamed pairs are. -/
def wantP (zs : List Int) (p : Int × Int) : List (Int × Int) := if 0 ≤ p.1 ∧ 0 ≤ p.2 ∧ p.1 ≠ p.2 ∧ p.1 < zs.length ∧ p.2 < zs.length then [((zs[p.1.toNat]?).getD 0, (zs[p.2.toNat]?).getD 0)] else []
def wantL (zs : List Int) (ps : List (Int × Int)) : List (Int × Int) := ps.flatMap (wantP zs)

theorem ren_want {zs : List Int} {ps : List (Int × Int)} {a b : Int} : hasR (renL zs ps) a b = hasR (wantL zs ps) a b := by
  apply Bool.eq_iff_iff.2
  rw [hasR_iff, hasR_iff]
  have key : ∀ a b, (a, b) ∈ renL zs ps → (a, b) ∈ wantL zs ps ∨ (b, a) ∈ wantL zs ps := by
    intro a b h
    obtain ⟨p, hp, h1⟩ := List.mem_flatMap.1 h
    obtain ⟨q, hq, rfl, h2, h3⟩ := goods_mem.1 hp
    unfold renP at h1
    split at h1
    · rename_i h4
      replace h2 : 0 ≤ min q.1 q.2 := h2
      replace h3 : min q.1 q.2 < max q.1 q.2 := h3
      replace h4 : max q.1 q.2 < zs.length := h4
      have h5 := List.mem_singleton.1 h1
      have h6 : wantP zs q = [((zs[q.1.toNat]?).getD 0, (zs[q.2.toNat]?).getD 0)] := by unfold wantP; rw [if_pos ⟨by omega, by omega, by omega, by omega, by omega⟩]
      have h7 : ((zs[q.1.toNat]?).getD 0, (zs[q.2.toNat]?).getD 0) ∈ wantL zs ps := List.mem_flatMap.2 ⟨q, hq, by rw [h6]; exact List.mem_singleton.2 rfl⟩
      replace h5 : (a, b) = ((zs[(min q.1 q.2).toNat]?).getD 0, (zs[(max q.1 q.2).toNat]?).getD 0) := h5
      by_cases h8 : q.1 < q.2
      · rw [show min q.1 q.2 = q.1 by omega, show max q.1 q.2 = q.2 by omega] at h5
        rw [← h5] at h7
        exact .inl h7
      · rw [show min q.1 q.2 = q.2 by omega, show max q.1 q.2 = q.1 by omega] at h5
        obtain ⟨rfl, rfl⟩ := Prod.mk.inj h5
        exact .inr h7
    · cases h1
  have back : ∀ a b, (a, b) ∈ wantL zs ps → (a, b) ∈ renL zs ps ∨ (b, a) ∈ renL zs ps := by
    intro a b h
    obtain ⟨q, hq, h1⟩ := List.mem_flatMap.1 h
    unfold wantP at h1
    split at h1
    · rename_i h4
      obtain ⟨h4, h5, h6, h7, h8⟩ := h4
      have h9 := List.mem_singleton.1 h1
      have hg : (min q.1 q.2, max q.1 q.2) ∈ goods ps := goods_mem.2 ⟨q, hq, rfl, by show 0 ≤ min q.1 q.2; omega, by show min q.1 q.2 < max q.1 q.2; omega⟩
      have h10 : renP zs (min q.1 q.2, max q.1 q.2) = [((zs[(min q.1 q.2).toNat]?).getD 0, (zs[(max q.1 q.2).toNat]?).getD 0)] := by unfold renP; rw [if_pos (by show max q.1 q.2 < _; omega)]
      have h11 : ((zs[(min q.1 q.2).toNat]?).getD 0, (zs[(max q.1 q.2).toNat]?).getD 0) ∈ renL zs ps := List.mem_flatMap.2 ⟨_, hg, by rw [h10]; exact List.mem_singleton.2 rfl⟩
      by_cases h8 : q.1 < q.2
      · rw [show min q.1 q.2 = q.1 by omega, show max q.1 q.2 = q.2 by omega, ← h9] at h11
        exact .inl h11
      · rw [show min q.1 q.2 = q.2 by omega, show max q.1 q.2 = q.1 by omega] at h11
        obtain ⟨rfl, rfl⟩ := Prod.mk.inj h9
        exact .inr h11
    · cases h1
  constructor
  · rintro ⟨h1, h2, h3, h4 | h4⟩
    · exact ⟨h1, h2, h3, key _ _ h4⟩
    · exact ⟨h1, h2, h3, (key _ _ h4).symm⟩
  · rintro ⟨h1, h2, h3, h4 | h4⟩
    · exact ⟨h1, h2, h3, back _ _ h4⟩
    · exact ⟨h1, h2, h3, (back _ _ h4).symm⟩
end Go.Proofs.P17
