/- The walk through the document's own questions on pairs. -/
import Derived.Test.YtdddcofggemnkaaP17V5
namespace Go.Proofs.P17
set_option linter.all false
open Go Go.Am
/-- A slice of pairs that may be read: as it is, or a row. -/
def PSl (x : AV) (l : Heap) (ps : List (Int × Int)) : Prop := (∃ k, x = .list .shared k (ps.map pV) ∧ (k = 2 ∨ ps = [])) ∨ ∃ id ver cs, x = .ref id ver 0 ps.length ∧ Has l id (.row ver cs) ∧ PRow cs ps
def Pa (a : AV) (l : Heap) (p : Int × Int) : Prop := a = .cptr (pV p) ∨ ∃ id ver off cs, a = .ptr id ver off ∧ Has l id (.row ver cs) ∧ cs[off]? = some (vZ p.1) ∧ cs[off + 1]? = some (vZ p.2)
def Pc (a : AV) (l : Heap) (z : Int) : Prop := a = .cptr (.agg [vZ z]) ∨ ∃ id ver off cs, a = .ptr id ver off ∧ Has l id (.row ver cs) ∧ cs[off]? = some (vZ z)

section
variable {m : Mem} {l : Heap} {P : AV → Mem → Prop} {x a : AV} {ps : List (Int × Int)} {p : Int × Int} {z : Int}
theorem _root_.Go.Am.Tells.psLen (hx : PSl x l ps) {k : KV} (hk : Tells (k (vI ps.length) m) P) : Tells (Am.vK (aLen m 1 x) m k) P := by
  rcases hx with ⟨kk, rfl, _⟩ | ⟨id, ver, cs, rfl, _⟩
  · refine Tells.lenL ?_
    rw [List.length_map]
    exact hk
  · exact Tells.lenR hk
theorem _root_.Go.Am.Tells.psIdx (hx : PSl x l ps) {kd : IntKind} {i : Int} {j : Nat} (hi : i = j) (hp : ps[j]? = some p) {k : KV} (hk : ∀ a, Pa a l p → Tells (k a m) P) : Tells (Am.vK (aIndexAddr m 2 x (.int kd i)) m k) P := by
  have hj := (List.getElem?_eq_some_iff.1 hp).1
  rcases hx with ⟨kk, rfl, hk2⟩ | ⟨id, ver, cs, rfl, hh, hc⟩
  · have : kk = 2 := hk2.resolve_right (by intro e; rw [e] at hj; simp at hj)
    subst this
    exact Tells.indexL hi (by rw [List.getElem?_map, hp]; rfl) (hk _ (.inl rfl))
  · refine Tells.indexR hi hj (hk _ (.inr ⟨id, ver, _, cs, rfl, hh, ?_⟩))
    obtain ⟨g1, g2⟩ := hc.2 j p hp
    rw [Nat.zero_add]
    exact ⟨g1, g2⟩
theorem _root_.Go.Am.Tells.pa0 (h : Pa a l p) {k : KV} (hk : ∀ b, Pc b l p.1 → Tells (k b m) P) : Tells (Am.vK (aIndexAddrA 2 1 a (.int .i64 0)) m k) P := by
  rcases h with rfl | ⟨id, ver, off, cs, rfl, hh, h1, h2⟩
  · refine Tells.of_eq ?_ (hk _ (.inl rfl))
    rfl
  · exact Tells.indexA (j := 0) rfl (by omega) (hk _ (.inr ⟨id, ver, _, cs, rfl, hh, h1⟩))
theorem _root_.Go.Am.Tells.pa1 (h : Pa a l p) {k : KV} (hk : ∀ b, Pc b l p.2 → Tells (k b m) P) : Tells (Am.vK (aIndexAddrA 2 1 a (.int .i64 1)) m k) P := by
  rcases h with rfl | ⟨id, ver, off, cs, rfl, hh, h1, h2⟩
  · refine Tells.of_eq ?_ (hk _ (.inl rfl))
    rfl
  · exact Tells.indexA (j := 1) rfl (by omega) (hk _ (.inr ⟨id, ver, _, cs, rfl, hh, h2⟩))
theorem _root_.Go.Am.Tells.pcLoad (hs : Sep m l) (h : Pc a l z) {k : KV} (hk : Tells (k (vZ z) m) P) : Tells (loadK none a m k) P := by
  rcases h with rfl | ⟨id, ver, off, cs, rfl, hh, h1⟩
  · refine Tells.of_eq ?_ hk
    rw [loadK_eq]; rfl
  · exact Tells.load1 hs hh h1 hk
end

attribute [local irreducible] loadK storeK newK boxK tipK makeMapK buildTK buildK buildSliceK nilK binK unK condK convK eqvK pickK gK gDK vK extractK fieldK lookupK mapUpdateK appendK min2K max2K retK makeSliceK freezeK bytesK loopV blkK stayK sameK rangeK callK aFieldAddr aIndexAddr aIndexAddrA aLen aIndex aSlice
theorem RowR.psl {x : AV} {H l : Heap} {ps : List (Int × Int)} (h : RowR x.untag H 2 (ps.map pV)) : PSl x.untag (H ++ l) ps := by
  rcases h with ⟨g, k, h1, h2, rfl⟩ | ⟨id, ver, cs, _, h1, rfl, h3, h4, _⟩
  · have : ps = [] := by simpa using h2
    subst this
    rw [h1]
    cases x <;> simp only [AV.untag] at h1 <;> cases h1
    exact .inl ⟨_, rfl, .inr rfl⟩
  · rw [List.length_map] at h1 h3 h4
    exact .inr ⟨id, ver, cs, h1, .z, prow_of h3 h4⟩
theorem IsPs.psl {v : AV} {l : Heap} {ps : List (Int × Int)} (h : IsPs v ps) : PSl v l ps := .inl h

/-- Are two a pair of some? -/
def hasP (ps : List (Int × Int)) (a b : Int) : Bool := ps.any fun p => (decide (p.1 = a) && decide (p.2 = b)) || (decide (p.1 = b) && decide (p.2 = a))
def hasR (ps : List (Int × Int)) (a b : Int) : Bool := !(decide (a < 0) || decide (b < 0) || decide (a = b)) && hasP ps a b

theorem call27 {m : Mem} {fr : Heap} {x : AV} {zs : List Int} (hx : IsZs x zs) (hl : zs.length < 4294967296) (hs : Sep m fr) : Tells (Am.Call T 27 [x] m) fun r m' => r = .bool (zs.any fun z => decide (40 < z)) ∧ Sep m' fr := by
  obtain ⟨k, rfl, hk⟩ := hx
  have hlz : (zs.map vZ).length = zs.length := List.length_map _
  refine Tells.fn (zs.length + 2) rfl F27_ok rfl ?_
  show Tells (S27 (Am.Call T) (zs.length + 2) m (.list .shared k (zs.map vZ))) _
  have h : Sep ⟨m.objs, none⟩ fr := hs.objs rfl
  unfold S27 G27
  refine Tells.loop (fun j vs m => ∃ i : Nat, i + j = zs.length ∧ ((zs.take i).any fun z => decide (40 < z)) = false ∧ vs = [.list .shared k (zs.map vZ), vI i] ∧ Sep m fr) ?_ (i := zs.length) (by omega) ?_
  · rintro j vs m L2 ⟨i, j1, j2, rfl, h⟩ hL
    unfold S27_2 G27_2
    by_cases hi : i < zs.length
    · obtain ⟨z, hz⟩ : ∃ z, zs[i]? = some z := ⟨_, List.getElem?_eq_getElem hi⟩
      have hk1 : k = 1 := hk.resolve_right (by intro e; rw [e] at hi; simp at hi)
      subst hk1
      have hgz : (zs.map vZ)[i]? = some (vZ z) := by rw [List.getElem?_map, hz]; rfl
      have htk : zs.take (i + 1) = zs.take i ++ [z] := by rw [List.take_add_one, hz]; rfl
      by_cases h40 : 40 < z
      · refine .lenL ?_
        refine .lss ?_
        refine .condT (by first | assumption | omega) ?_
        refine .indexL (j := i) (by rfl) hgz ?_
        refine .loadC1 (by rfl) ?_
        refine .gtr ?_
        refine .condT (by first | assumption | omega) ?_
        refine .blkR ?_
        refine .ret1 (by rfl) ?_
        intro m hobj
        refine ⟨?_, h.objs hobj⟩
        have : (zs.any fun z => decide (40 < z)) = true := List.any_eq_true.2 ⟨z, List.mem_of_getElem? hz, by simpa using h40⟩
        rw [this]
      · refine .lenL ?_
        refine .lss ?_
        refine .condT (by first | assumption | omega) ?_
        refine .indexL (j := i) (by rfl) hgz ?_
        refine .loadC1 (by rfl) ?_
        refine .gtr ?_
        refine .condF (by first | assumption | omega) ?_
        refine .add (by rfl) (by omega) ?_
        exact hL (j - 1) _ _ (by omega) ⟨i + 1, by omega, by rw [htk, List.any_append, j2]; simp [h40], rfl, h⟩
    · have hi : i = zs.length := by omega
      subst hi
      rw [List.take_length] at j2
      refine .lenL ?_
      refine .lss ?_
      refine .condF (by first | assumption | omega) ?_
      refine .blk ?_
      refine .ret1 (by rfl) ?_
      intro m hobj
      exact ⟨by rw [j2], h.objs hobj⟩
  · exact ⟨0, by omega, by simp, rfl, h⟩

set_option maxHeartbeats 8000000 in
theorem call31 {m : Mem} {l : Heap} {x : AV} {ps : List (Int × Int)} {a b : Int} (hx : PSl x l ps) (hl : ps.length < 4294967296) (hs : Sep m l) : Tells (Am.Call T 31 [x, .int .i64 a, .int .i64 b] m) fun r m' => r = .bool (hasR ps a b) ∧ Sep m' l := by
  refine Tells.fn (ps.length + 2) rfl F31_ok rfl ?_
  show Tells (S31 (Am.Call T) (ps.length + 2) m x (.int .i64 a) (.int .i64 b)) _
  have h : Sep ⟨m.objs, none⟩ l := hs.objs rfl
  unfold S31 G31
  by_cases ha : a < 0
  · refine .lss ?_
    refine .gTF (by rfl) (by first | assumption | omega) ?_
    refine .gTF (by rfl) (by first | assumption | omega) ?_
    refine .pickT (by first | assumption | omega) ?_
    refine .gtf ?_
    refine .gtf ?_
    refine .gtf ?_
    refine .picktt ?_
    refine .condtt ?_
    refine .ret1 (by rfl) ?_
    intro m hobj
    exact ⟨by simp [hasR, ha], h.objs hobj⟩
  by_cases hb : b < 0
  · refine .lss ?_
    refine .gF (by rfl) (by first | assumption | omega) ?_
    refine .gF (by rfl) (by first | assumption | omega) ?_
    refine .lss ?_
    refine .pickF (by first | assumption | omega) ?_
    refine .gTF (by rfl) (by first | assumption | omega) ?_
    refine .gTF (by rfl) (by first | assumption | omega) ?_
    refine .gTF (by rfl) (by first | assumption | omega) ?_
    refine .pickT (by first | assumption | omega) ?_
    refine .condtt ?_
    refine .ret1 (by rfl) ?_
    intro m hobj
    exact ⟨by simp [hasR, hb], h.objs hobj⟩
  by_cases hab : a = b
  · refine .lss ?_
    refine .gF (by rfl) (by first | assumption | omega) ?_
    refine .gF (by rfl) (by first | assumption | omega) ?_
    refine .lss ?_
    refine .pickF (by first | assumption | omega) ?_
    refine .gF (by rfl) (by first | assumption | omega) ?_
    refine .gF (by rfl) (by first | assumption | omega) ?_
    refine .gF (by rfl) (by first | assumption | omega) ?_
    refine .eql ?_
    refine .pickF (by first | assumption | omega) ?_
    refine .condT (by first | assumption | omega) ?_
    refine .ret1 (by rfl) ?_
    intro m hobj
    exact ⟨by simp [hasR, hab], h.objs hobj⟩
  have hR : hasR ps a b = hasP ps a b := by simp [hasR, ha, hb, hab]
  rw [hR]
  refine .lss ?_
  refine .gF (by rfl) (by first | assumption | omega) ?_
  refine .gF (by rfl) (by first | assumption | omega) ?_
  refine .lss ?_
  refine .pickF (by first | assumption | omega) ?_
  refine .gF (by rfl) (by first | assumption | omega) ?_
  refine .gF (by rfl) (by first | assumption | omega) ?_
  refine .gF (by rfl) (by first | assumption | omega) ?_
  refine .eql ?_
  refine .pickF (by first | assumption | omega) ?_
  refine .condF (by first | assumption | omega) ?_
  unfold S31_4 G31_4
  refine Tells.loop (fun j vs m => ∃ i : Nat, i + j = ps.length ∧ hasP (ps.take i) a b = false ∧ vs = [x, .int .i64 a, .int .i64 b, vI i] ∧ Sep m l) ?_ (i := ps.length) (by omega) ?_
  · rintro j vs m L2 ⟨i, j1, j2, rfl, h⟩ hL
    unfold S31_2 G31_2
    by_cases hi : i < ps.length
    · obtain ⟨p, hp⟩ : ∃ p, ps[i]? = some p := ⟨_, List.getElem?_eq_getElem hi⟩
      have htk : ps.take (i + 1) = ps.take i ++ [p] := by rw [List.take_add_one, hp]; rfl
      have yes : ((decide (p.1 = a) && decide (p.2 = b)) || (decide (p.1 = b) && decide (p.2 = a))) = true → hasP ps a b = true := fun e => List.any_eq_true.2 ⟨p, List.mem_of_getElem? hp, e⟩
      have no : ((decide (p.1 = a) && decide (p.2 = b)) || (decide (p.1 = b) && decide (p.2 = a))) = false → hasP (ps.take (i + 1)) a b = false := fun e => by
        unfold hasP at j2 ⊢
        rw [htk, List.any_append, j2, List.any_cons, e]; rfl
      by_cases c1 : p.1 = a
      · by_cases c2 : p.2 = b
        · refine .psLen hx ?_
          refine .lss ?_
          refine .condT (by first | assumption | omega) ?_
          refine .psIdx hx (j := i) (by rfl) hp ?_; intro ad had
          refine .pa0 ‹_› ?_; intro bd hbd
          refine .pcLoad h ‹_› ?_
          refine .eql ?_
          refine .gT (by rfl) (by first | assumption | omega) ?_
          refine .gT (by rfl) (by first | assumption | omega) ?_
          refine .gT (by rfl) (by first | assumption | omega) ?_
          refine .psIdx hx (j := i) (by rfl) hp ?_; intro ad had
          refine .gT (by rfl) (by first | assumption | omega) ?_
          refine .pa1 ‹_› ?_; intro bd hbd
          refine .gT (by rfl) (by first | assumption | omega) ?_
          refine .pcLoad h ‹_› ?_
          refine .gT (by rfl) (by first | assumption | omega) ?_
          refine .gT (by rfl) (by first | assumption | omega) ?_
          refine .eql ?_
          refine .pickT (by first | assumption | omega) ?_
          refine .gTF (by rfl) (by first | assumption | omega) ?_
          refine .gTF (by rfl) (by first | assumption | omega) ?_
          refine .gTF (by rfl) (by first | assumption | omega) ?_
          refine .gTF (by rfl) (by first | assumption | omega) ?_
          refine .gTF (by rfl) (by first | assumption | omega) ?_
          refine .gTF (by rfl) (by first | assumption | omega) ?_
          refine .gTF (by rfl) (by first | assumption | omega) ?_
          refine .gTF (by rfl) (by first | assumption | omega) ?_
          refine .gN ?_
          refine .gN ?_
          refine .gN ?_
          refine .gN ?_
          refine .gN ?_
          refine .gN ?_
          refine .gN ?_
          refine .gTF (by rfl) (by first | assumption | omega) ?_
          refine .pickT (by first | assumption | omega) ?_
          refine .condtt ?_
          refine .blkR ?_
          refine .ret1 (by rfl) ?_
          intro m hobj
          exact ⟨by rw [yes (by rw [decide_eq_true c1, decide_eq_true c2]; rfl)], h.objs hobj⟩
        · have c3 : ¬ p.1 = b := fun c3 => hab (c1.symm.trans c3)
          refine .psLen hx ?_
          refine .lss ?_
          refine .condT (by first | assumption | omega) ?_
          refine .psIdx hx (j := i) (by rfl) hp ?_; intro ad had
          refine .pa0 ‹_› ?_; intro bd hbd
          refine .pcLoad h ‹_› ?_
          refine .eql ?_
          refine .gT (by rfl) (by first | assumption | omega) ?_
          refine .gT (by rfl) (by first | assumption | omega) ?_
          refine .gT (by rfl) (by first | assumption | omega) ?_
          refine .psIdx hx (j := i) (by rfl) hp ?_; intro ad had
          refine .gT (by rfl) (by first | assumption | omega) ?_
          refine .pa1 ‹_› ?_; intro bd hbd
          refine .gT (by rfl) (by first | assumption | omega) ?_
          refine .pcLoad h ‹_› ?_
          refine .gT (by rfl) (by first | assumption | omega) ?_
          refine .gT (by rfl) (by first | assumption | omega) ?_
          refine .eql ?_
          refine .pickT (by first | assumption | omega) ?_
          refine .gF (by rfl) (by first | assumption | omega) ?_
          refine .gF (by rfl) (by first | assumption | omega) ?_
          refine .gF (by rfl) (by first | assumption | omega) ?_
          refine .psIdx hx (j := i) (by rfl) hp ?_; intro ad had
          refine .gF (by rfl) (by first | assumption | omega) ?_
          refine .pa0 ‹_› ?_; intro bd hbd
          refine .gF (by rfl) (by first | assumption | omega) ?_
          refine .pcLoad h ‹_› ?_
          refine .gF (by rfl) (by first | assumption | omega) ?_
          refine .gF (by rfl) (by first | assumption | omega) ?_
          refine .eql ?_
          refine .gF (by rfl) (by first | assumption | omega) ?_
          refine .gFT (by rfl) (by first | assumption | omega) ?_
          refine .gFT (by rfl) (by first | assumption | omega) ?_
          refine .gFT (by rfl) (by first | assumption | omega) ?_
          refine .gFT (by rfl) (by first | assumption | omega) ?_
          refine .gFT (by rfl) (by first | assumption | omega) ?_
          refine .gFT (by rfl) (by first | assumption | omega) ?_
          refine .gFT (by rfl) (by first | assumption | omega) ?_
          refine .gF (by rfl) (by first | assumption | omega) ?_
          refine .pickF (by first | assumption | omega) ?_
          refine .pickF (by first | assumption | omega) ?_
          refine .condff ?_
          refine .add (by rfl) (by omega) ?_
          exact hL (j - 1) _ _ (by omega) ⟨i + 1, by omega, no (by rw [decide_eq_false c2, decide_eq_false c3, Bool.and_false, Bool.false_and]; rfl), rfl, h⟩
      · by_cases c3 : p.1 = b
        · by_cases c4 : p.2 = a
          · refine .psLen hx ?_
            refine .lss ?_
            refine .condT (by first | assumption | omega) ?_
            refine .psIdx hx (j := i) (by rfl) hp ?_; intro ad had
            refine .pa0 ‹_› ?_; intro bd hbd
            refine .pcLoad h ‹_› ?_
            refine .eql ?_
            refine .gFT (by rfl) (by first | assumption | omega) ?_
            refine .gFT (by rfl) (by first | assumption | omega) ?_
            refine .gFT (by rfl) (by first | assumption | omega) ?_
            refine .gFT (by rfl) (by first | assumption | omega) ?_
            refine .gFT (by rfl) (by first | assumption | omega) ?_
            refine .gFT (by rfl) (by first | assumption | omega) ?_
            refine .gFT (by rfl) (by first | assumption | omega) ?_
            refine .pickF (by first | assumption | omega) ?_
            refine .gff ?_
            refine .gff ?_
            refine .gff ?_
            refine .psIdx hx (j := i) (by rfl) hp ?_; intro ad had
            refine .gff ?_
            refine .pa0 ‹_› ?_; intro bd hbd
            refine .gff ?_
            refine .pcLoad h ‹_› ?_
            refine .gff ?_
            refine .gff ?_
            refine .eql ?_
            refine .gff ?_
            refine .gT (by rfl) (by first | assumption | omega) ?_
            refine .gT (by rfl) (by first | assumption | omega) ?_
            refine .gT (by rfl) (by first | assumption | omega) ?_
            refine .psIdx hx (j := i) (by rfl) hp ?_; intro ad had
            refine .gT (by rfl) (by first | assumption | omega) ?_
            refine .pa1 ‹_› ?_; intro bd hbd
            refine .gT (by rfl) (by first | assumption | omega) ?_
            refine .pcLoad h ‹_› ?_
            refine .gT (by rfl) (by first | assumption | omega) ?_
            refine .gT (by rfl) (by first | assumption | omega) ?_
            refine .eql ?_
            refine .gff ?_
            refine .pickT (by first | assumption | omega) ?_
            refine .pickff ?_
            refine .condT (by first | assumption | omega) ?_
            refine .blkR ?_
            refine .ret1 (by rfl) ?_
            intro m hobj
            exact ⟨by rw [yes (by rw [decide_eq_true c3, decide_eq_true c4, Bool.and_self, Bool.or_true])], h.objs hobj⟩
          · refine .psLen hx ?_
            refine .lss ?_
            refine .condT (by first | assumption | omega) ?_
            refine .psIdx hx (j := i) (by rfl) hp ?_; intro ad had
            refine .pa0 ‹_› ?_; intro bd hbd
            refine .pcLoad h ‹_› ?_
            refine .eql ?_
            refine .gFT (by rfl) (by first | assumption | omega) ?_
            refine .gFT (by rfl) (by first | assumption | omega) ?_
            refine .gFT (by rfl) (by first | assumption | omega) ?_
            refine .gFT (by rfl) (by first | assumption | omega) ?_
            refine .gFT (by rfl) (by first | assumption | omega) ?_
            refine .gFT (by rfl) (by first | assumption | omega) ?_
            refine .gFT (by rfl) (by first | assumption | omega) ?_
            refine .pickF (by first | assumption | omega) ?_
            refine .gff ?_
            refine .gff ?_
            refine .gff ?_
            refine .psIdx hx (j := i) (by rfl) hp ?_; intro ad had
            refine .gff ?_
            refine .pa0 ‹_› ?_; intro bd hbd
            refine .gff ?_
            refine .pcLoad h ‹_› ?_
            refine .gff ?_
            refine .gff ?_
            refine .eql ?_
            refine .gff ?_
            refine .gT (by rfl) (by first | assumption | omega) ?_
            refine .gT (by rfl) (by first | assumption | omega) ?_
            refine .gT (by rfl) (by first | assumption | omega) ?_
            refine .psIdx hx (j := i) (by rfl) hp ?_; intro ad had
            refine .gT (by rfl) (by first | assumption | omega) ?_
            refine .pa1 ‹_› ?_; intro bd hbd
            refine .gT (by rfl) (by first | assumption | omega) ?_
            refine .pcLoad h ‹_› ?_
            refine .gT (by rfl) (by first | assumption | omega) ?_
            refine .gT (by rfl) (by first | assumption | omega) ?_
            refine .eql ?_
            refine .gff ?_
            refine .pickT (by first | assumption | omega) ?_
            refine .pickff ?_
            refine .condF (by first | assumption | omega) ?_
            refine .add (by rfl) (by omega) ?_
            exact hL (j - 1) _ _ (by omega) ⟨i + 1, by omega, no (by rw [decide_eq_false c1, decide_eq_false c4, Bool.and_false, Bool.false_and]; rfl), rfl, h⟩
        · refine .psLen hx ?_
          refine .lss ?_
          refine .condT (by first | assumption | omega) ?_
          refine .psIdx hx (j := i) (by rfl) hp ?_; intro ad had
          refine .pa0 ‹_› ?_; intro bd hbd
          refine .pcLoad h ‹_› ?_
          refine .eql ?_
          refine .gFT (by rfl) (by first | assumption | omega) ?_
          refine .gFT (by rfl) (by first | assumption | omega) ?_
          refine .gFT (by rfl) (by first | assumption | omega) ?_
          refine .gFT (by rfl) (by first | assumption | omega) ?_
          refine .gFT (by rfl) (by first | assumption | omega) ?_
          refine .gFT (by rfl) (by first | assumption | omega) ?_
          refine .gFT (by rfl) (by first | assumption | omega) ?_
          refine .pickF (by first | assumption | omega) ?_
          refine .gff ?_
          refine .gff ?_
          refine .gff ?_
          refine .psIdx hx (j := i) (by rfl) hp ?_; intro ad had
          refine .gff ?_
          refine .pa0 ‹_› ?_; intro bd hbd
          refine .gff ?_
          refine .pcLoad h ‹_› ?_
          refine .gff ?_
          refine .gff ?_
          refine .eql ?_
          refine .gff ?_
          refine .gFT (by rfl) (by first | assumption | omega) ?_
          refine .gFT (by rfl) (by first | assumption | omega) ?_
          refine .gFT (by rfl) (by first | assumption | omega) ?_
          refine .gFT (by rfl) (by first | assumption | omega) ?_
          refine .gFT (by rfl) (by first | assumption | omega) ?_
          refine .gFT (by rfl) (by first | assumption | omega) ?_
          refine .gFT (by rfl) (by first | assumption | omega) ?_
          refine .gff ?_
          refine .pickF (by first | assumption | omega) ?_
          refine .pickff ?_
          refine .condff ?_
          refine .add (by rfl) (by omega) ?_
          exact hL (j - 1) _ _ (by omega) ⟨i + 1, by omega, no (by rw [decide_eq_false c1, decide_eq_false c3, Bool.false_and, Bool.false_and]; rfl), rfl, h⟩
    · have hi : i = ps.length := by omega
      subst hi
      rw [List.take_length] at j2
      refine .psLen hx ?_
      refine .lss ?_
      refine .condF (by first | assumption | omega) ?_
      refine .blk ?_
      refine .ret1 (by rfl) ?_
      intro m hobj
      exact ⟨by rw [j2], h.objs hobj⟩
  · exact ⟨0, by omega, by simp [hasP], rfl, h⟩

/-- Sorted, the lesser ahead, each once. -/
def FormP (ps : List (Int × Int)) : Prop := ∀ (i : Nat) (p : Int × Int), ps[i]? = some p → 0 ≤ p.1 ∧ p.1 < p.2 ∧ ∀ q, 0 < i → ps[i - 1]? = some q → q.1 < p.1 ∨ q.1 = p.1 ∧ q.2 < p.2

set_option maxHeartbeats 8000000 in
theorem call30 {m : Mem} {l : Heap} {x : AV} {ps : List (Int × Int)} (hx : PSl x l ps) (hl : ps.length < 4294967296) (hf : FormP ps) (hs : Sep m l) : Tells (Am.Call T 30 [x] m) fun r m' => r = .bool true ∧ Sep m' l := by
  refine Tells.fn (ps.length + 2) rfl F30_ok rfl ?_
  show Tells (S30 (Am.Call T) (ps.length + 2) m x) _
  have h : Sep ⟨m.objs, none⟩ l := hs.objs rfl
  unfold S30 G30
  refine Tells.loop (fun j vs m => ∃ i : Nat, i + j = ps.length ∧ vs = [x, vI i] ∧ Sep m l) ?_ (i := ps.length) (by omega) ?_
  · rintro j vs m L2 ⟨i, j1, rfl, h⟩ hL
    unfold S30_5 G30_5
    by_cases hi : i < ps.length
    · obtain ⟨p, hp⟩ : ∃ p, ps[i]? = some p := ⟨_, List.getElem?_eq_getElem hi⟩
      obtain ⟨f1, f2, f3⟩ := hf i p hp
      have f1' : ¬ p.1 < 0 := by omega
      have f2' : ¬ p.2 ≤ p.1 := by omega
      by_cases h0 : 0 < i
      · obtain ⟨q, hq⟩ : ∃ q, ps[i - 1]? = some q := ⟨_, List.getElem?_eq_getElem (by omega)⟩
        have ii : ((i : Int) - 1) = ((i - 1 : Nat) : Int) := by omega
        have f4 := f3 q h0 hq
        have n1 : ¬ p.1 < q.1 := by omega
        by_cases he : q.1 = p.1
        · have n2 : ¬ p.2 ≤ q.2 := by omega
          refine .psLen hx ?_
          refine .lss ?_
          refine .condT (by first | assumption | omega) ?_
          refine .psIdx hx (j := i) (by rfl) hp ?_; intro ad had
          refine .pa0 ‹_› ?_; intro bd hbd
          refine .pcLoad h ‹_› ?_
          refine .lss ?_
          refine .gF (by rfl) (by first | assumption | omega) ?_
          refine .gF (by rfl) (by first | assumption | omega) ?_
          refine .gF (by rfl) (by first | assumption | omega) ?_
          refine .psIdx hx (j := i) (by rfl) hp ?_; intro ad had
          refine .gF (by rfl) (by first | assumption | omega) ?_
          refine .pa0 ‹_› ?_; intro bd hbd
          refine .gF (by rfl) (by first | assumption | omega) ?_
          refine .pcLoad h ‹_› ?_
          refine .gF (by rfl) (by first | assumption | omega) ?_
          refine .gF (by rfl) (by first | assumption | omega) ?_
          refine .gF (by rfl) (by first | assumption | omega) ?_
          refine .psIdx hx (j := i) (by rfl) hp ?_; intro ad had
          refine .gF (by rfl) (by first | assumption | omega) ?_
          refine .pa1 ‹_› ?_; intro bd hbd
          refine .gF (by rfl) (by first | assumption | omega) ?_
          refine .pcLoad h ‹_› ?_
          refine .gF (by rfl) (by first | assumption | omega) ?_
          refine .geq ?_
          refine .pickF (by first | assumption | omega) ?_
          refine .condF (by first | assumption | omega) ?_
          refine .gtr ?_
          refine .gT (by rfl) (by first | assumption | omega) ?_
          refine .gT (by rfl) (by first | assumption | omega) ?_
          refine .gT (by rfl) (by first | assumption | omega) ?_
          refine .sub (c := ((i - 1 : Nat) : Int)) ii (by omega) ?_
          refine .gT (by rfl) (by first | assumption | omega) ?_
          refine .psIdx hx (j := i - 1) (by rfl) hq ?_; intro ad had
          refine .gT (by rfl) (by first | assumption | omega) ?_
          refine .pa0 ‹_› ?_; intro bd hbd
          refine .gT (by rfl) (by first | assumption | omega) ?_
          refine .pcLoad h ‹_› ?_
          refine .gT (by rfl) (by first | assumption | omega) ?_
          refine .gT (by rfl) (by first | assumption | omega) ?_
          refine .gT (by rfl) (by first | assumption | omega) ?_
          refine .psIdx hx (j := i) (by rfl) hp ?_; intro ad had
          refine .gT (by rfl) (by first | assumption | omega) ?_
          refine .pa0 ‹_› ?_; intro bd hbd
          refine .gT (by rfl) (by first | assumption | omega) ?_
          refine .pcLoad h ‹_› ?_
          refine .gT (by rfl) (by first | assumption | omega) ?_
          refine .gtr ?_
          refine .gT (by rfl) (by first | assumption | omega) ?_
          refine .gF (by rfl) (by first | assumption | omega) ?_
          refine .gF (by rfl) (by first | assumption | omega) ?_
          refine .gF (by rfl) (by first | assumption | omega) ?_
          refine .sub (c := ((i - 1 : Nat) : Int)) ii (by omega) ?_
          refine .gF (by rfl) (by first | assumption | omega) ?_
          refine .psIdx hx (j := i - 1) (by rfl) hq ?_; intro ad had
          refine .gF (by rfl) (by first | assumption | omega) ?_
          refine .pa0 ‹_› ?_; intro bd hbd
          refine .gF (by rfl) (by first | assumption | omega) ?_
          refine .pcLoad h ‹_› ?_
          refine .gF (by rfl) (by first | assumption | omega) ?_
          refine .gF (by rfl) (by first | assumption | omega) ?_
          refine .gF (by rfl) (by first | assumption | omega) ?_
          refine .psIdx hx (j := i) (by rfl) hp ?_; intro ad had
          refine .gF (by rfl) (by first | assumption | omega) ?_
          refine .pa0 ‹_› ?_; intro bd hbd
          refine .gF (by rfl) (by first | assumption | omega) ?_
          refine .pcLoad h ‹_› ?_
          refine .gF (by rfl) (by first | assumption | omega) ?_
          refine .eql ?_
          refine .gF (by rfl) (by first | assumption | omega) ?_
          refine .gT (by rfl) (by first | assumption | omega) ?_
          refine .gT (by rfl) (by first | assumption | omega) ?_
          refine .gT (by rfl) (by first | assumption | omega) ?_
          refine .sub (c := ((i - 1 : Nat) : Int)) ii (by omega) ?_
          refine .gT (by rfl) (by first | assumption | omega) ?_
          refine .psIdx hx (j := i - 1) (by rfl) hq ?_; intro ad had
          refine .gT (by rfl) (by first | assumption | omega) ?_
          refine .pa1 ‹_› ?_; intro bd hbd
          refine .gT (by rfl) (by first | assumption | omega) ?_
          refine .pcLoad h ‹_› ?_
          refine .gT (by rfl) (by first | assumption | omega) ?_
          refine .gT (by rfl) (by first | assumption | omega) ?_
          refine .gT (by rfl) (by first | assumption | omega) ?_
          refine .psIdx hx (j := i) (by rfl) hp ?_; intro ad had
          refine .gT (by rfl) (by first | assumption | omega) ?_
          refine .pa1 ‹_› ?_; intro bd hbd
          refine .gT (by rfl) (by first | assumption | omega) ?_
          refine .pcLoad h ‹_› ?_
          refine .gT (by rfl) (by first | assumption | omega) ?_
          refine .geq ?_
          refine .gF (by rfl) (by first | assumption | omega) ?_
          refine .pickT (by first | assumption | omega) ?_
          refine .gT (by rfl) (by first | assumption | omega) ?_
          refine .pickF (by first | assumption | omega) ?_
          refine .pickT (by first | assumption | omega) ?_
          refine .condF (by first | assumption | omega) ?_
          refine .add (by rfl) (by omega) ?_
          exact hL (j - 1) _ _ (by omega) ⟨i + 1, by omega, rfl, h⟩
        · refine .psLen hx ?_
          refine .lss ?_
          refine .condT (by first | assumption | omega) ?_
          refine .psIdx hx (j := i) (by rfl) hp ?_; intro ad had
          refine .pa0 ‹_› ?_; intro bd hbd
          refine .pcLoad h ‹_› ?_
          refine .lss ?_
          refine .gF (by rfl) (by first | assumption | omega) ?_
          refine .gF (by rfl) (by first | assumption | omega) ?_
          refine .gF (by rfl) (by first | assumption | omega) ?_
          refine .psIdx hx (j := i) (by rfl) hp ?_; intro ad had
          refine .gF (by rfl) (by first | assumption | omega) ?_
          refine .pa0 ‹_› ?_; intro bd hbd
          refine .gF (by rfl) (by first | assumption | omega) ?_
          refine .pcLoad h ‹_› ?_
          refine .gF (by rfl) (by first | assumption | omega) ?_
          refine .gF (by rfl) (by first | assumption | omega) ?_
          refine .gF (by rfl) (by first | assumption | omega) ?_
          refine .psIdx hx (j := i) (by rfl) hp ?_; intro ad had
          refine .gF (by rfl) (by first | assumption | omega) ?_
          refine .pa1 ‹_› ?_; intro bd hbd
          refine .gF (by rfl) (by first | assumption | omega) ?_
          refine .pcLoad h ‹_› ?_
          refine .gF (by rfl) (by first | assumption | omega) ?_
          refine .geq ?_
          refine .pickF (by first | assumption | omega) ?_
          refine .condF (by first | assumption | omega) ?_
          refine .gtr ?_
          refine .gT (by rfl) (by first | assumption | omega) ?_
          refine .gT (by rfl) (by first | assumption | omega) ?_
          refine .gT (by rfl) (by first | assumption | omega) ?_
          refine .sub (c := ((i - 1 : Nat) : Int)) ii (by omega) ?_
          refine .gT (by rfl) (by first | assumption | omega) ?_
          refine .psIdx hx (j := i - 1) (by rfl) hq ?_; intro ad had
          refine .gT (by rfl) (by first | assumption | omega) ?_
          refine .pa0 ‹_› ?_; intro bd hbd
          refine .gT (by rfl) (by first | assumption | omega) ?_
          refine .pcLoad h ‹_› ?_
          refine .gT (by rfl) (by first | assumption | omega) ?_
          refine .gT (by rfl) (by first | assumption | omega) ?_
          refine .gT (by rfl) (by first | assumption | omega) ?_
          refine .psIdx hx (j := i) (by rfl) hp ?_; intro ad had
          refine .gT (by rfl) (by first | assumption | omega) ?_
          refine .pa0 ‹_› ?_; intro bd hbd
          refine .gT (by rfl) (by first | assumption | omega) ?_
          refine .pcLoad h ‹_› ?_
          refine .gT (by rfl) (by first | assumption | omega) ?_
          refine .gtr ?_
          refine .gT (by rfl) (by first | assumption | omega) ?_
          refine .gF (by rfl) (by first | assumption | omega) ?_
          refine .gF (by rfl) (by first | assumption | omega) ?_
          refine .gF (by rfl) (by first | assumption | omega) ?_
          refine .sub (c := ((i - 1 : Nat) : Int)) ii (by omega) ?_
          refine .gF (by rfl) (by first | assumption | omega) ?_
          refine .psIdx hx (j := i - 1) (by rfl) hq ?_; intro ad had
          refine .gF (by rfl) (by first | assumption | omega) ?_
          refine .pa0 ‹_› ?_; intro bd hbd
          refine .gF (by rfl) (by first | assumption | omega) ?_
          refine .pcLoad h ‹_› ?_
          refine .gF (by rfl) (by first | assumption | omega) ?_
          refine .gF (by rfl) (by first | assumption | omega) ?_
          refine .gF (by rfl) (by first | assumption | omega) ?_
          refine .psIdx hx (j := i) (by rfl) hp ?_; intro ad had
          refine .gF (by rfl) (by first | assumption | omega) ?_
          refine .pa0 ‹_› ?_; intro bd hbd
          refine .gF (by rfl) (by first | assumption | omega) ?_
          refine .pcLoad h ‹_› ?_
          refine .gF (by rfl) (by first | assumption | omega) ?_
          refine .eql ?_
          refine .gF (by rfl) (by first | assumption | omega) ?_
          refine .gFT (by rfl) (by first | assumption | omega) ?_
          refine .gFT (by rfl) (by first | assumption | omega) ?_
          refine .gFT (by rfl) (by first | assumption | omega) ?_
          refine .gFT (by rfl) (by first | assumption | omega) ?_
          refine .gFT (by rfl) (by first | assumption | omega) ?_
          refine .gFT (by rfl) (by first | assumption | omega) ?_
          refine .gFT (by rfl) (by first | assumption | omega) ?_
          refine .gFT (by rfl) (by first | assumption | omega) ?_
          refine .gFT (by rfl) (by first | assumption | omega) ?_
          refine .gFT (by rfl) (by first | assumption | omega) ?_
          refine .gFT (by rfl) (by first | assumption | omega) ?_
          refine .gFT (by rfl) (by first | assumption | omega) ?_
          refine .gF (by rfl) (by first | assumption | omega) ?_
          refine .pickF (by first | assumption | omega) ?_
          refine .gT (by rfl) (by first | assumption | omega) ?_
          refine .pickF (by first | assumption | omega) ?_
          refine .pickT (by first | assumption | omega) ?_
          refine .condff ?_
          refine .add (by rfl) (by omega) ?_
          exact hL (j - 1) _ _ (by omega) ⟨i + 1, by omega, rfl, h⟩
      · refine .psLen hx ?_
        refine .lss ?_
        refine .condT (by first | assumption | omega) ?_
        refine .psIdx hx (j := i) (by rfl) hp ?_; intro ad had
        refine .pa0 ‹_› ?_; intro bd hbd
        refine .pcLoad h ‹_› ?_
        refine .lss ?_
        refine .gF (by rfl) (by first | assumption | omega) ?_
        refine .gF (by rfl) (by first | assumption | omega) ?_
        refine .gF (by rfl) (by first | assumption | omega) ?_
        refine .psIdx hx (j := i) (by rfl) hp ?_; intro ad had
        refine .gF (by rfl) (by first | assumption | omega) ?_
        refine .pa0 ‹_› ?_; intro bd hbd
        refine .gF (by rfl) (by first | assumption | omega) ?_
        refine .pcLoad h ‹_› ?_
        refine .gF (by rfl) (by first | assumption | omega) ?_
        refine .gF (by rfl) (by first | assumption | omega) ?_
        refine .gF (by rfl) (by first | assumption | omega) ?_
        refine .psIdx hx (j := i) (by rfl) hp ?_; intro ad had
        refine .gF (by rfl) (by first | assumption | omega) ?_
        refine .pa1 ‹_› ?_; intro bd hbd
        refine .gF (by rfl) (by first | assumption | omega) ?_
        refine .pcLoad h ‹_› ?_
        refine .gF (by rfl) (by first | assumption | omega) ?_
        refine .geq ?_
        refine .pickF (by first | assumption | omega) ?_
        refine .condF (by first | assumption | omega) ?_
        refine .gtr ?_
        refine .gFT (by rfl) (by first | assumption | omega) ?_
        refine .gFT (by rfl) (by first | assumption | omega) ?_
        refine .gFT (by rfl) (by first | assumption | omega) ?_
        refine .gFT (by rfl) (by first | assumption | omega) ?_
        refine .gFT (by rfl) (by first | assumption | omega) ?_
        refine .gFT (by rfl) (by first | assumption | omega) ?_
        refine .gFT (by rfl) (by first | assumption | omega) ?_
        refine .gFT (by rfl) (by first | assumption | omega) ?_
        refine .gFT (by rfl) (by first | assumption | omega) ?_
        refine .gFT (by rfl) (by first | assumption | omega) ?_
        refine .gFT (by rfl) (by first | assumption | omega) ?_
        refine .gFT (by rfl) (by first | assumption | omega) ?_
        refine .gFT (by rfl) (by first | assumption | omega) ?_
        refine .gN ?_
        refine .gN ?_
        refine .gN ?_
        refine .gN ?_
        refine .gN ?_
        refine .gN ?_
        refine .gN ?_
        refine .gN ?_
        refine .gN ?_
        refine .gN ?_
        refine .gN ?_
        refine .gN ?_
        refine .gN ?_
        refine .gN ?_
        refine .gN ?_
        refine .gN ?_
        refine .gN ?_
        refine .gN ?_
        refine .gN ?_
        refine .gN ?_
        refine .gN ?_
        refine .gN ?_
        refine .gN ?_
        refine .gN ?_
        refine .gN ?_
        refine .gN ?_
        refine .gFT (by rfl) (by first | assumption | omega) ?_
        refine .pickF (by first | assumption | omega) ?_
        refine .condff ?_
        refine .add (by rfl) (by omega) ?_
        exact hL (j - 1) _ _ (by omega) ⟨i + 1, by omega, rfl, h⟩
    · refine .psLen hx ?_
      refine .lss ?_
      refine .condF (by first | assumption | omega) ?_
      refine .blk ?_
      refine .ret1 (by rfl) ?_
      intro m hobj
      exact ⟨rfl, h.objs hobj⟩
  · exact ⟨0, by omega, rfl, h⟩
end Go.Proofs.P17
