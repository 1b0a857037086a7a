/- The walk through what sorts pairs, and leaves out what is twice. -/
import Derived.Test.YtdddcofggemnkaaP17V2
namespace Go.Proofs.P17
set_option linter.all false
open Go Go.Am
attribute [local irreducible] loadK storeK newK boxK tipK makeMapK buildTK buildK buildSliceK nilK binK unK condK convK eqvK pickK gK gDK vK extractK fieldK lookupK mapUpdateK appendK min2K max2K retK makeSliceK freezeK bytesK loopV blkK stayK sameK rangeK callK aFieldAddr aIndexAddr aIndexAddrA aLen aIndex aSlice

theorem call62 {m : Mem} {fr : Heap} {v : AV} {c : Nat} {ps : List (Int × Int)} (hv : IsPs v ps) (hlen : ps.length < 4294967296) (hs : Sep m ((c, .row 0 [v]) :: fr)) :
    Tells (Am.Call T 62 [.func 85 [] [.ptr c 0 0]] m) fun x m' => ∃ H, RowR x H 2 ((goods ps).map pV) ∧ Sep m' (H ++ fr) := by
  refine Tells.fn 9 rfl F62_ok rfl ?_
  show Tells (S62 (Am.Call T) 9 m (.func 85 [] [.ptr c 0 0])) _
  have h : Sep ⟨m.objs, none⟩ ((c, .row 0 [v]) :: fr) := hs.objs rfl
  unfold S62 G62
  refine Tells.call rfl (call86 hv hlen h) ?_
  rintro x m' ⟨H, hx, h⟩
  refine Tells.ret rfl rfl ?_
  intro m'' hobj
  refine ⟨H, ?_, h.objs hobj⟩
  show RowR x.untag H 2 _
  rcases hx with ⟨g, k, rfl, h1, h2⟩ | ⟨id, ver, cs, h1, rfl, h3⟩
  · exact .inl ⟨.shared, k, rfl, h1, h2⟩
  · exact .inr ⟨id, ver, cs, h1, rfl, h3⟩

theorem flat_pV (ps : List (Int × Int)) : flat (ps.map pV) = (flatP ps).map (AV.int .i64) := by
  induction ps with
  | nil => rfl
  | cons p ps ih =>
    show [AV.int .i64 p.1, AV.int .i64 p.2] ++ flat (ps.map pV) = _
    rw [ih]; rfl

def sortP (ps : List (Int × Int)) : List (Int × Int) := ps.mergeSort leP

theorem call63 {m : Mem} {fr H : Heap} {x : AV} {ps : List (Int × Int)} (hx : RowR x H 2 (ps.map pV)) (hlen : ps.length < 4294967296) (hs : Sep m (H ++ fr)) :
    Tells (Am.Call T 63 [x, .func 64 [] []] m) fun r m' => r = .tuple [] ∧ ∃ H', RowR x H' 2 ((sortP ps).map pV) ∧ Sep m' (H' ++ fr) := by
  have hl2 : (sortP ps).length = ps.length := List.length_mergeSort _
  rcases hx with ⟨g, k, rfl, h1, rfl⟩ | ⟨id, ver, cs, h1, rfl, rfl, h3, h4, h5⟩
  · have hps : ps = [] := by simpa using h1
    subst hps
    refine Tells.orc (r := (.tuple [], m)) rfl ?_ ⟨rfl, [], .inl ⟨g, k, rfl, by simp [sortP], rfl⟩, hs⟩
    rfl
  · rw [List.length_map] at h3 h4 h5
    have ho : m.objs[id]? = some (.row ver cs) := hs.at_ (id, _) (by simp)
    have hz : intsOf (cs.take (ps.length * 2)) = some (flatP ps) := by rw [h3, flat_pV]; exact intsOf_ints _
    refine Tells.orc (r := (.tuple [], m.put id (.row ver ((sortF (flatP ps)).map (AV.int .i64) ++ cs.drop (ps.length * 2))))) rfl ?_ ⟨rfl, [(id, .row ver ((sortF (flatP ps)).map (AV.int .i64) ++ cs.drop (ps.length * 2)))], .inr ⟨id, ver, _, h1, ?_, rfl, ?_, ?_, ?_⟩, hs.put .z⟩
    · show sortPO sortF 64 [.ref id ver 0 (ps.map pV).length, .func 64 [] []] m = _
      unfold sortPO
      rw [List.length_map]
      simp only [ho]
      rw [if_pos ⟨trivial, trivial, h4, h5, by omega, trivial⟩, hz]
    · rw [List.length_map, List.length_map, hl2]
    · have e : sortF (flatP ps) = flatP (sortP ps) := by unfold sortF sortP; rw [pairsOf_flat]
      rw [e, List.length_map, flat_pV]
      have : (sortP ps).length * 2 = ((flatP (sortP ps)).map (AV.int .i64)).length := by rw [List.length_map, flatP_len]
      rw [this, List.take_left]
    · rw [List.length_map, List.length_append, List.length_map, List.length_drop, sortF_len ps.length _ (flatP_len ps), flatP_len, hl2]
      omega
    · rw [List.length_map, hl2]; exact h5

/-! What is not as the one ahead of it. -/

def compTo (l : List (Int × Int)) : Nat → List (Int × Int)
  | 0 => []
  | i + 1 => compTo l i ++ match l[i]? with
    | none => []
    | some x => if i ≠ 0 ∧ l[i - 1]? = some x then [] else [x]
def comp (l : List (Int × Int)) : List (Int × Int) := compTo l l.length

theorem compTo_le {l : List (Int × Int)} : ∀ {i : Nat}, (compTo l i).length ≤ i := by
  intro i
  induction i with
  | zero => exact Nat.le_refl _
  | succ i ih =>
    simp only [compTo, List.length_append]
    split
    · simp; omega
    · split <;> simp <;> omega

theorem ltP_of {x y : Int × Int} (h : leP x y = true) (hne : x ≠ y) : leP y x = false := by
  cases h2 : leP y x with
  | false => rfl
  | true => exact absurd (leP_anti h h2) hne

theorem compTo_sorted {l : List (Int × Int)} (hl : l.Pairwise fun a b => leP a b = true) : ∀ {i : Nat}, i ≤ l.length →
    (compTo l i).Pairwise (fun a b => leP a b = true ∧ a ≠ b) ∧ ∀ x, x ∈ compTo l i ↔ x ∈ l.take i := by
  intro i
  induction i with
  | zero => intro _; exact ⟨List.Pairwise.nil, fun x => by simp [compTo]⟩
  | succ i ih =>
    intro hi
    obtain ⟨h1, h2⟩ := ih (by omega)
    have hg : l[i]? = some l[i] := List.getElem?_eq_getElem (by omega)
    have htk : l.take (i + 1) = l.take i ++ [l[i]] := by rw [List.take_add_one, hg]; rfl
    simp only [compTo, hg]
    have hle : ∀ x ∈ l.take i, leP x l[i] = true := by
      intro x hx
      obtain ⟨j, hj⟩ := List.getElem?_of_mem hx
      rw [List.getElem?_take] at hj
      split at hj
      · rename_i hlt
        obtain ⟨hj1, hj2⟩ := List.getElem?_eq_some_iff.1 hj
        rw [← hj2]
        exact List.pairwise_iff_getElem.1 hl j i hj1 (by omega) hlt
      · cases hj
    split
    · rename_i hc
      rw [List.append_nil]
      refine ⟨h1, fun x => ?_⟩
      rw [h2, htk, List.mem_append, List.mem_singleton]
      refine ⟨.inl, fun h => h.elim id fun e => ?_⟩
      subst e
      refine List.mem_of_getElem? (i := i - 1) ?_
      rw [List.getElem?_take, if_pos (by omega)]
      exact hc.2
    · rename_i hc
      refine ⟨?_, fun x => by rw [List.mem_append, h2, htk, List.mem_append]⟩
      rw [List.pairwise_append]
      refine ⟨h1, by simp, fun a ha b hb => ?_⟩
      rw [List.mem_singleton] at hb
      subst hb
      have ha' := (h2 a).1 ha
      refine ⟨hle a ha', fun e => ?_⟩
      subst e
      -- the one ahead of it would be it, too
      obtain ⟨j, hj⟩ := List.getElem?_of_mem ha'
      rw [List.getElem?_take] at hj
      split at hj
      · rename_i hlt
        obtain ⟨hj1, hj2⟩ := List.getElem?_eq_some_iff.1 hj
        refine hc ⟨by omega, ?_⟩
        have hi1 : i - 1 < l.length := by omega
        rw [List.getElem?_eq_getElem hi1]
        congr 1
        by_cases e1 : j = i - 1
        · subst e1; exact hj2
        · have g1 := List.pairwise_iff_getElem.1 hl j (i - 1) hj1 hi1 (by omega)
          have g2 := List.pairwise_iff_getElem.1 hl (i - 1) i hi1 (by omega) (by omega)
          rw [hj2] at g1
          exact leP_anti g2 g1
      · cases hj

theorem comp_sorted {l : List (Int × Int)} (hl : l.Pairwise fun a b => leP a b = true) : (comp l).Pairwise (fun a b => leP a b = true ∧ a ≠ b) ∧ ∀ x, x ∈ comp l ↔ x ∈ l := by
  have := compTo_sorted hl (Nat.le_refl _)
  rwa [List.take_length] at this
end Go.Proofs.P17
