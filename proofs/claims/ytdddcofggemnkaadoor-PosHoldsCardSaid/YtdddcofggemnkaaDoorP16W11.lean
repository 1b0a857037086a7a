/- The walk through the law's own small functions. -/
import Derived.Test.YtdddcofggemnkaaDoorP16W8
import Derived.Test.YtdddcofggemnkaaDoorTab
namespace Go.Proofs.P16
set_option linter.all false
open Go Go.Am Go.Bdd
attribute [local irreducible] loadK storeK newK boxK tipK makeMapK buildTK buildK buildSliceK nilK binK unK condK convK eqvK pickK gK gDK vK extractK fieldK lookupK mapUpdateK appendK min2K max2K retK makeSliceK freezeK bytesK loopV blkK stayK sameK rangeK callK aFieldAddr aIndexAddr aIndexAddrA aLen aIndex aSlice

abbrev vU (t : Nat) : AV := .int .u64 (t : Int)

theorem call7 {m : Mem} {fr : Heap} {c : Nat} {z : Int} (hc : c < 64) (hs : Sep m fr) : Tells (Am.Call T 7 [vI c, .int .i64 z] m) fun x m' => x = .bool (bitN c z) ∧ Sep m' fr := by
  refine Tells.fn 0 rfl F7_ok rfl ?_
  show Tells (S7 (Am.Call T) 0 m (vI c) (.int .i64 z)) _
  have h : Sep ⟨m.objs, none⟩ fr := hs.objs rfl
  unfold S7 G7
  unfold bitN
  by_cases h1 : 0 ≤ z
  · obtain ⟨n, rfl⟩ : ∃ n : Nat, z = n := ⟨z.toNat, by omega⟩
    by_cases h2 : (n : Int) < 6
    · have := shr_lt (c := n) hc
      refine .geq ?_
      refine .gtt ?_
      refine .gtt ?_
      refine .lss ?_
      refine .picktt ?_
      refine .gT (by rfl) (by first | assumption | omega) ?_
      refine .gT (by rfl) (by first | assumption | omega) ?_
      refine .gT (by rfl) (by first | assumption | omega) ?_
      refine .shrI (by omega) ?_
      refine .gT (by rfl) (by first | assumption | omega) ?_
      refine .and1I (by omega) ?_
      refine .gT (by rfl) (by first | assumption | omega) ?_
      refine .bitT ?_
      refine .pickT (by first | assumption | omega) ?_
      refine .ret1 (by rfl) ?_
      intro m hobj
      exact ⟨by rw [decide_eq_true h1, decide_eq_true h2]; rfl, h.objs hobj⟩
    · refine .geq ?_
      refine .gtt ?_
      refine .gtt ?_
      refine .lss ?_
      refine .picktt ?_
      refine .gFT (by rfl) (by first | assumption | omega) ?_
      refine .gFT (by rfl) (by first | assumption | omega) ?_
      refine .gFT (by rfl) (by first | assumption | omega) ?_
      refine .gFT (by rfl) (by first | assumption | omega) ?_
      refine .gFT (by rfl) (by first | assumption | omega) ?_
      refine .pickF (by first | assumption | omega) ?_
      refine .ret1 (by rfl) ?_
      intro m hobj
      exact ⟨by rw [decide_eq_false h2]; simp, h.objs hobj⟩
  · refine .geq ?_
    refine .gFT (by rfl) (by first | assumption | omega) ?_
    refine .gFT (by rfl) (by first | assumption | omega) ?_
    refine .pickF (by first | assumption | omega) ?_
    refine .gft ?_
    refine .gft ?_
    refine .gft ?_
    refine .gft ?_
    refine .gft ?_
    refine .pickff ?_
    refine .ret1 (by rfl) ?_
    intro m hobj
    exact ⟨by rw [decide_eq_false h1]; rfl, h.objs hobj⟩

/-- A number among n. -/
def placeN (a : Int) (n : Nat) : Nat := (a % n).toNat
theorem placeN_lt {a : Int} {n : Nat} (h : 0 < n) : placeN a n < n := by
  have := Int.emod_lt_of_pos a (show (0 : Int) < n by omega)
  have := Int.emod_nonneg a (show (n : Int) ≠ 0 by omega)
  simp only [placeN]; omega
theorem place_eq {a : Int} {n : Nat} (h : 0 < n) : (a.tmod n + n).tmod n = placeN a n := by
  have h1 := Int.emod_nonneg a (show (n : Int) ≠ 0 by omega)
  have h2 : -(n : Int) < a.tmod n := by
    have := Int.lt_tmod_of_pos a (show (0 : Int) < n by omega)
    omega
  rw [Int.tmod_eq_emod_of_nonneg (by omega), Int.add_emod_right, Int.tmod_def, Int.sub_mul_emod_self_left]
  simp only [placeN]
  omega

theorem call12 {m : Mem} {fr : Heap} {a : Int} {n : Nat} (hn : 0 < n) (hn2 : n < 4294967296) (hs : Sep m fr) : Tells (Am.Call T 12 [.int .i64 a, vI n] m) fun x m' => x = vI (placeN a n) ∧ Sep m' fr := by
  refine Tells.fn 0 rfl F12_ok rfl ?_
  show Tells (S12 (Am.Call T) 0 m (.int .i64 a) (vI n)) _
  have h : Sep ⟨m.objs, none⟩ fr := hs.objs rfl
  unfold S12 G12
  have h2 := Int.lt_tmod_of_pos a (show (0 : Int) < n by omega)
  have h3 := Int.tmod_lt_of_pos a (show (0 : Int) < n by omega)
  refine .rem (c := a.tmod n) (by omega) rfl ?_
  refine .add (by rfl) (by omega) ?_
  refine .rem (by omega) (place_eq hn) ?_
  refine .ret1 (by rfl) ?_
  intro m hobj
  exact ⟨rfl, h.objs hobj⟩

theorem call51 {m : Mem} {fr : Heap} {t : Nat} {f : BF} {v : Nat} (hf : Tt t f) (hv : v < 6) (hs : Sep m fr) : Tells (Am.Call T 51 [vU t, vI v] m) fun x m' => x = .bool (decide (Hg f v)) ∧ Sep m' fr := by
  refine Tells.fn 65 rfl F51_ok rfl ?_
  show Tells (S51 (Am.Call T) _ m (vU t) (vI v)) _
  have h : Sep ⟨m.objs, none⟩ fr := hs.objs rfl
  have ht := hf.lt
  unfold S51 G51
  refine Tells.loop (fun i vs m => ∃ c, c + i = 64 ∧ (∀ d, d < c → t.testBit (d ||| 2 ^ v) = t.testBit (andNot d (2 ^ v))) ∧ vs = [vU t, vI v, vI c] ∧ Sep m fr) ?_ (i := 64) (by omega) ?_
  · rintro i vs m L ⟨c, i1, i2, rfl, h⟩ hL
    by_cases hc : c < 64
    · have b1 := or_lt hc hv
      have b2 := andNot_lt (v := v) hc
      have p1 : 2 ^ v < 64 := Nat.pow_lt_pow_right (n := 6) (by decide) hv
      have s1 := shr_lt (c := c ||| 2 ^ v) ht
      have s2 := shr_lt (c := andNot c (2 ^ v)) ht
      by_cases he : t >>> (c ||| 2 ^ v) % 2 = t >>> (andNot c (2 ^ v)) % 2
      · refine .lss ?_
        refine .condT (by first | assumption | omega) ?_
        refine .shl1I (by omega) ?_
        refine .orI (by omega) (by omega) ?_
        refine .shrU (by omega) ?_
        refine .and1U (by omega) ?_
        refine .shl1I (by omega) ?_
        refine .andNotI (by omega) (by omega) ?_
        refine .shrU (by omega) ?_
        refine .and1U (by omega) ?_
        refine .neq ?_
        refine .condF (by first | assumption | omega) ?_
        refine .add (by rfl) (by omega) ?_
        refine hL (i - 1) _ _ (by omega) ⟨c + 1, by omega, fun d hd => ?_, rfl, h⟩
        by_cases hdc : d = c
        · subst hdc
          rw [← bit_dec, ← bit_dec, he]
        · exact i2 d (by omega)
      · refine .lss ?_
        refine .condT (by first | assumption | omega) ?_
        refine .shl1I (by omega) ?_
        refine .orI (by omega) (by omega) ?_
        refine .shrU (by omega) ?_
        refine .and1U (by omega) ?_
        refine .shl1I (by omega) ?_
        refine .andNotI (by omega) (by omega) ?_
        refine .shrU (by omega) ?_
        refine .and1U (by omega) ?_
        refine .neq ?_
        refine .condT (by first | assumption | omega) ?_
        refine .blkR ?_
        refine .ret1 (by rfl) ?_
        intro m hobj
        refine ⟨?_, h.objs hobj⟩
        rw [decide_eq_true]
        refine (hf.hangs hv).2 ⟨c, hc, fun e => he ?_⟩
        rw [← bit_dec, ← bit_dec] at e
        have := decide_eq_decide.1 e
        omega
    · have : c = 64 := by omega
      subst this
      refine .lss ?_
      refine .condff ?_
      refine .blk ?_
      refine .ret1 (by rfl) ?_
      intro m hobj
      refine ⟨?_, h.objs hobj⟩
      rw [decide_eq_false]
      intro hh
      obtain ⟨c, hc, hd⟩ := (hf.hangs hv).1 hh
      exact hd (i2 c hc)
  · exact ⟨0, by omega, fun d hd => by omega, rfl, h⟩

/-- The variables of a choice, below k. -/
def chL (c : Nat) : Nat → List Int
  | 0 => []
  | k + 1 => if c.testBit k then chL c k ++ [(k : Int)] else chL c k
end Go.Proofs.P16
