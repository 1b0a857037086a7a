/- The walk through the pairs of a list that are some. -/
import Derived.Test.YtdddcofggemnkaaP17Sh
import Derived.Test.YtdddcofggemnkaaAmV
namespace Go.Proofs.P17
set_option linter.all false
open Go Go.Am
attribute [local irreducible] loadK storeK newK boxK tipK makeMapK buildTK buildK buildSliceK nilK binK unK condK convK eqvK pickK gK gDK vK extractK fieldK lookupK mapUpdateK appendK min2K max2K retK makeSliceK freezeK bytesK loopV blkK stayK sameK rangeK callK aFieldAddr aIndexAddr aIndexAddrA aLen aIndex aSlice

theorem T_yb {y : Nat} : T (yb + y) = none := by
  cases h : T (yb + y) with
  | none => rfl
  | some fn =>
    have h1 := hT _ _ h
    unfold okFn at h1
    split at h1
    · split at h1
      · simp only [Bool.and_eq_true, decide_eq_true_eq] at h1
        have := h1.1.1.1
        omega
      · cases h1
    · cases h1

abbrev vI (n : Nat) : AV := .int .i64 (n : Int)
abbrev vZ (z : Int) : AV := .int .i64 z
abbrev pV (p : Int × Int) : AV := .agg [.int .i64 p.1, .int .i64 p.2]
/-- A list of pairs; of whole numbers. -/
def IsPs (v : AV) (ps : List (Int × Int)) : Prop := ∃ k, v = .list .shared k (ps.map pV) ∧ (k = 2 ∨ ps = [])
def IsZs (v : AV) (zs : List Int) : Prop := ∃ k, v = .list .shared k (zs.map vZ) ∧ (k = 1 ∨ zs = [])

def ord (p : Int × Int) : Int × Int := (min p.1 p.2, max p.1 p.2)
def okP (p : Int × Int) : Bool := decide (0 ≤ p.1) && decide (p.1 ≠ p.2)
def goods (ps : List (Int × Int)) : List (Int × Int) := (ps.map ord).filter okP

theorem call61 {m : Mem} {fr : Heap} {v : AV} {ps : List (Int × Int)} (hv : IsPs v ps) (hs : Sep m fr) : Tells (Am.Call T 61 [v] m) fun x m' => ∃ c, x = .func 85 [] [.ptr c 0 0] ∧ Sep m' ((c, .row 0 [v]) :: fr) := by
  obtain ⟨k, rfl, hk⟩ := hv
  refine Tells.fn 2 rfl F61_ok rfl ?_
  show Tells (S61 (Am.Call T) 2 m (.list .shared k (ps.map pV))) _
  have h : Sep ⟨m.objs, none⟩ fr := hs.objs rfl
  unfold S61 G61
  refine .box1 ‹_› (by rfl) (by rfl) ?_
  intro nw m h
  refine .ret1 (by rfl) ?_
  intro m hobj
  exact ⟨nw, rfl, h.objs hobj⟩

set_option maxHeartbeats 4000000 in
theorem call85 {J : List (Int × Int) → Heap → Prop} {Js : Heap → Prop} {y c : Nat} {v : AV} {ps : List (Int × Int)} (hv : IsPs v ps) (hlen : ps.length < 1152921504606846976) (hJ : ∀ d l, J d l → Has l c (.row 0 [v]))
    (round : ∀ d p l m, (d ++ [p]) <+: goods ps → J d l → Sep m l → Tells (Am.Call T (yb + y) [pV p] m) fun r m' => (r = .bool true ∧ ∃ l', J (d ++ [p]) l' ∧ Sep m' l') ∨ (r = .bool false ∧ ∃ l', Js l' ∧ Sep m' l'))
    {m : Mem} {l : Heap} (h0 : J [] l) (hs : Sep m l) : Tells (Am.Call T 85 [.yield y, .ptr c 0 0] m) fun _ m' => (∃ l', J (goods ps) l' ∧ Sep m' l') ∨ ∃ l', Js l' ∧ Sep m' l' := by
  obtain ⟨k, rfl, hk⟩ := hv
  have hlp : (ps.map pV).length = ps.length := List.length_map _
  refine Tells.fn (ps.length + 2) rfl F85_ok rfl ?_
  show Tells (S85 (Am.Call T) _ m (.yield y) (.ptr c 0 0)) _
  have h : Sep ⟨m.objs, none⟩ l := hs.objs rfl
  unfold S85 G85
  refine Tells.load1 h (hJ _ _ h0) rfl ?_
  refine .lenL ?_
  refine Tells.loop (fun j vs m => ∃ (i : Nat) (l : Heap), i + j = ps.length ∧ vs = [.yield y, .list .shared k (ps.map pV), vI ps.length, vI i] ∧ J (goods (ps.take i)) l ∧ Sep m l) ?_ (i := ps.length) (by omega) ?_
  · rintro j vs m L2 ⟨i, l, j1, rfl, hj, h⟩ hL
    unfold S85_2 G85_2
    by_cases hi : i < ps.length
    · obtain ⟨p, hp⟩ : ∃ p, ps[i]? = some p := ⟨_, List.getElem?_eq_getElem hi⟩
      have hk2 : k = 2 := hk.resolve_right (by intro e; rw [e] at hi; simp at hi)
      subst hk2
      have hgp : (ps.map pV)[i]? = some (pV p) := by rw [List.getElem?_map, hp]; rfl
      have htk : ps.take (i + 1) = ps.take i ++ [p] := by rw [List.take_add_one, hp]; rfl
      have hpre : goods (ps.take (i + 1)) <+: goods ps := by
        unfold goods
        exact List.IsPrefix.filter _ (List.IsPrefix.map _ (List.take_prefix _ _))
      have hgood : goods (ps.take (i + 1)) = goods (ps.take i) ++ if okP (ord p) then [ord p] else [] := by
        rw [htk]
        simp only [goods, List.map_append, List.filter_append, List.map_cons, List.map_nil, List.filter_cons, List.filter_nil]
      by_cases h0 : 0 ≤ min p.1 p.2
      · by_cases hne : min p.1 p.2 = max p.1 p.2
        · have hok : okP (ord p) = false := by simp [okP, ord, hne]
          rw [hok] at hgood
          refine .lss ?_
          refine .condT (by first | assumption | omega) ?_
          refine .indexL (j := i) (by rfl) hgp ?_
          refine .loadCA (by rfl) ?_
          refine .new ‹_› ?_
          intro nw m h
          refine .storeA ‹_› .z (by rfl) (by rfl) ?_
          intro m h
          refine .indexA (j := 0) (by rfl) (by omega) ?_
          refine .load1 ‹_› .z (by rfl) ?_
          refine .indexA (j := 1) (by rfl) (by omega) ?_
          refine .load1 ‹_› .z (by rfl) ?_
          refine .min2 (c := min p.1 p.2) rfl ?_
          refine .indexA (j := 0) (by rfl) (by omega) ?_
          refine .load1 ‹_› .z (by rfl) ?_
          refine .indexA (j := 1) (by rfl) (by omega) ?_
          refine .load1 ‹_› .z (by rfl) ?_
          refine .max2 (c := max p.1 p.2) rfl ?_
          refine .build2 ?_
          refine .storeA ‹_› .z (by rfl) (by rfl) ?_
          intro m h
          refine .indexA (j := 0) (by rfl) (by omega) ?_
          refine .load1 ‹_› .z (by rfl) ?_
          refine .geq ?_
          refine .gT (by rfl) (by first | assumption | omega) ?_
          refine .indexA (j := 0) (by rfl) (by omega) ?_
          refine .gT (by rfl) (by first | assumption | omega) ?_
          refine .load1 ‹_› .z (by rfl) ?_
          refine .gT (by rfl) (by first | assumption | omega) ?_
          refine .indexA (j := 1) (by rfl) (by omega) ?_
          refine .gT (by rfl) (by first | assumption | omega) ?_
          refine .load1 ‹_› .z (by rfl) ?_
          refine .gT (by rfl) (by first | assumption | omega) ?_
          refine .neq ?_
          refine .pickT (by first | assumption | omega) ?_
          refine .gFT (by rfl) (by first | assumption | omega) ?_
          refine .gFT (by rfl) (by first | assumption | omega) ?_
          refine .gFT (by rfl) (by first | assumption | omega) ?_
          refine .gFT (by rfl) (by first | assumption | omega) ?_
          refine .pickF (by first | assumption | omega) ?_
          refine .condff ?_
          refine .add (by rfl) (by omega) ?_
          refine hL (j - 1) _ _ (by omega) ⟨i + 1, l, by omega, rfl, ?_, h.tail⟩
          rw [hgood]
          simpa using hj
        · have hok : okP (ord p) = true := by simp [okP, ord, h0, hne]
          rw [hok] at hgood
          refine .lss ?_
          refine .condT (by first | assumption | omega) ?_
          refine .indexL (j := i) (by rfl) hgp ?_
          refine .loadCA (by rfl) ?_
          refine .new ‹_› ?_
          intro nw m h
          refine .storeA ‹_› .z (by rfl) (by rfl) ?_
          intro m h
          refine .indexA (j := 0) (by rfl) (by omega) ?_
          refine .load1 ‹_› .z (by rfl) ?_
          refine .indexA (j := 1) (by rfl) (by omega) ?_
          refine .load1 ‹_› .z (by rfl) ?_
          refine .min2 (c := min p.1 p.2) rfl ?_
          refine .indexA (j := 0) (by rfl) (by omega) ?_
          refine .load1 ‹_› .z (by rfl) ?_
          refine .indexA (j := 1) (by rfl) (by omega) ?_
          refine .load1 ‹_› .z (by rfl) ?_
          refine .max2 (c := max p.1 p.2) rfl ?_
          refine .build2 ?_
          refine .storeA ‹_› .z (by rfl) (by rfl) ?_
          intro m h
          refine .indexA (j := 0) (by rfl) (by omega) ?_
          refine .load1 ‹_› .z (by rfl) ?_
          refine .geq ?_
          refine .gT (by rfl) (by first | assumption | omega) ?_
          refine .indexA (j := 0) (by rfl) (by omega) ?_
          refine .gT (by rfl) (by first | assumption | omega) ?_
          refine .load1 ‹_› .z (by rfl) ?_
          refine .gT (by rfl) (by first | assumption | omega) ?_
          refine .indexA (j := 1) (by rfl) (by omega) ?_
          refine .gT (by rfl) (by first | assumption | omega) ?_
          refine .load1 ‹_› .z (by rfl) ?_
          refine .gT (by rfl) (by first | assumption | omega) ?_
          refine .neq ?_
          refine .pickT (by first | assumption | omega) ?_
          refine .gT (by rfl) (by first | assumption | omega) ?_
          refine .gT (by rfl) (by first | assumption | omega) ?_
          refine .loadA ‹_› .z (by rfl) ?_
          refine .gT (by rfl) (by first | assumption | omega) ?_
          refine Tells.callY rfl (round (goods (ps.take i)) (ord p) l _ (by rw [hgood] at hpre; simpa using hpre) hj h.tail) ?_
          rintro _ m' (⟨rfl, l', hj', h'⟩ | ⟨rfl, l', hj', h'⟩)
          · refine .gT (by rfl) (by first | assumption | omega) ?_
            refine .not ?_
            refine .pickT (by first | assumption | omega) ?_
            refine .condff ?_
            refine .add (by rfl) (by omega) ?_
            refine hL (j - 1) _ _ (by omega) ⟨i + 1, l', by omega, rfl, ?_, h'⟩
            rw [hgood]
            simpa using hj'
          · refine .gT (by rfl) (by first | assumption | omega) ?_
            refine .not ?_
            refine .pickT (by first | assumption | omega) ?_
            refine .condtt ?_
            refine .blkR ?_
            refine .ret rfl rfl ?_
            intro m hobj
            exact .inr ⟨l', hj', h'.objs hobj⟩
      · have hok : okP (ord p) = false := by unfold okP ord; rw [Bool.and_eq_false_iff]; left; exact decide_eq_false h0
        rw [hok] at hgood
        refine .lss ?_
        refine .condT (by first | assumption | omega) ?_
        refine .indexL (j := i) (by rfl) hgp ?_
        refine .loadCA (by rfl) ?_
        refine .new ‹_› ?_
        intro nw m h
        refine .storeA ‹_› .z (by rfl) (by rfl) ?_
        intro m h
        refine .indexA (j := 0) (by rfl) (by omega) ?_
        refine .load1 ‹_› .z (by rfl) ?_
        refine .indexA (j := 1) (by rfl) (by omega) ?_
        refine .load1 ‹_› .z (by rfl) ?_
        refine .min2 (c := min p.1 p.2) rfl ?_
        refine .indexA (j := 0) (by rfl) (by omega) ?_
        refine .load1 ‹_› .z (by rfl) ?_
        refine .indexA (j := 1) (by rfl) (by omega) ?_
        refine .load1 ‹_› .z (by rfl) ?_
        refine .max2 (c := max p.1 p.2) rfl ?_
        refine .build2 ?_
        refine .storeA ‹_› .z (by rfl) (by rfl) ?_
        intro m h
        refine .indexA (j := 0) (by rfl) (by omega) ?_
        refine .load1 ‹_› .z (by rfl) ?_
        refine .geq ?_
        refine .gFT (by rfl) (by first | assumption | omega) ?_
        refine .gFT (by rfl) (by first | assumption | omega) ?_
        refine .gFT (by rfl) (by first | assumption | omega) ?_
        refine .gFT (by rfl) (by first | assumption | omega) ?_
        refine .gFT (by rfl) (by first | assumption | omega) ?_
        refine .pickF (by first | assumption | omega) ?_
        refine .gft ?_
        refine .gft ?_
        refine .gft ?_
        refine .gft ?_
        refine .pickff ?_
        refine .condff ?_
        refine .add (by rfl) (by omega) ?_
        refine hL (j - 1) _ _ (by omega) ⟨i + 1, l, by omega, rfl, ?_, h.tail⟩
        rw [hgood]
        simpa using hj
    · have hi : i = ps.length := by omega
      subst hi
      rw [List.take_length] at hj
      refine .lss ?_
      refine .condF (by first | assumption | omega) ?_
      refine .blk ?_
      refine .ret rfl rfl ?_
      intro m hobj
      exact .inl ⟨l, hj, h.objs hobj⟩
  · exact ⟨0, l, by omega, by rw [← hlp]; rfl, h0, h⟩
end Go.Proofs.P17
