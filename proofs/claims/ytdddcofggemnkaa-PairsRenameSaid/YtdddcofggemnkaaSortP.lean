/- What the library's sorting does to a row of pairs that are held against each other by their places: the closure walked, the contract laid. -/
import Derived.Lib.Walk
import Derived.Lib.Small
import Derived.LoopTactic
import Derived.WalkKit
import Derived.Below
import Derived.StillTailTactics
import Derived.Shelf.Slices.Clone
import Derived.KernelRfl
import Derived.Test.YtdddcofggemnkaaShelfS
namespace Go.Proofs
set_option linter.all false
open Go.Lib Go.RowKit Go.Shelf Go.Sort

theorem Try.or65 (b off c : Nat) (x y r : Int) (W : World) (hr : r = if x = 0 then y else x) (hx : W.cell? ⟨b, off, none⟩ = some (.int .i64 x)) (hy : W.cell? ⟨b, off + 1, none⟩ = some (.int .i64 y)) :
    Calls Try.prog 65 #[.slice (some ⟨b, off, none⟩) 2 c] W fun e w' => e = .returned (.int .i64 r) ∧ w' = W := by
  go_enter Try.func65, Try.ntmps65
  go_wp2
  go_loop [8] (fun i => ∃ k : Nat, (k = 0 ∨ k = 1 ∧ x = 0 ∨ k = 2 ∧ x = 0 ∧ y = 0) ∧ i = .int .i64 k) (fun i => 2 - (Go.RowKit.intOf i).toNat)
  case atStart => exact ⟨0, .inl rfl, rfl⟩
  case round =>
    obtain ⟨k, hk, rfl⟩ := hrel
    rcases hk with rfl | ⟨rfl, rfl⟩ | ⟨rfl, rfl, rfl⟩
    · have hr' : (x != 0) = true → x = r := fun h => by rw [hr, if_neg (by simpa using h)]
      clear hr
      go_wp2
      · rename_i h1 _
        go_ret
        have := hr' h1
        simp [this]
      · rename_i h1
        refine ⟨⟨1, .inr (.inl ⟨rfl, by simpa using h1⟩), rfl⟩, ?_⟩
        simp [Go.RowKit.intOf]
    · have hr' : y = r := by rw [hr, if_pos rfl]
      subst hr'
      clear hr
      go_wp2
      · go_ret
        simp
      · rename_i h1
        refine ⟨⟨2, .inr (.inr ⟨rfl, trivial, by simpa using h1⟩), rfl⟩, ?_⟩
        simp [Go.RowKit.intOf]
    · have hr' : 0 = r := by rw [hr, if_pos rfl]
      clear hr
      go_wp2
      go_ret
      simp [← hr']

set_option maxRecDepth 20000 in
theorem Try.closure64 (x y : Int × Int) (W : World) : Calls Try.prog 64 #[.agg #[.int .i64 x.1, .int .i64 x.2], .agg #[.int .i64 y.1, .int .i64 y.2]] W fun e w' => e = .returned (.int .i64 (if Lib.compareInt x.1 y.1 = 0 then Lib.compareInt x.2 y.2 else Lib.compareInt x.1 y.1)) ∧ ∃ q os', w' = grow (W.drewN q) os' := by
  have hcon := fun a b W' => Any.cmp_Compare_int Try.lays122 a b W'
  change ∀ _ _ _, Calls Try.prog 66 _ _ _ at hcon
  generalize hr3 : (if Lib.compareInt x.1 y.1 = 0 then Lib.compareInt x.2 y.2 else Lib.compareInt x.1 y.1) = r3
  generalize hr1 : Lib.compareInt x.1 y.1 = r1 at hr3
  generalize hr2 : Lib.compareInt x.2 y.2 = r2 at hr3
  have h1 := hcon x.1 y.1
  have h2 := hcon x.2 y.2
  rw [hr1] at h1
  rw [hr2] at h2
  clear hcon
  go_enter Try.func64, Try.ntmps64
  go_wp2
  have f0 : ((W.alloc (Obj.cells #[Value.int IntKind.i64 x.1, Value.int IntKind.i64 x.2] 52)).alloc (Obj.cells #[Value.int IntKind.i64 y.1, Value.int IntKind.i64 y.2] 52)).cell? ⟨W.heap.size, 0, none⟩ = some (.int .i64 x.1) := by go_simp
  have f1 : ((W.alloc (Obj.cells #[Value.int IntKind.i64 x.1, Value.int IntKind.i64 x.2] 52)).alloc (Obj.cells #[Value.int IntKind.i64 y.1, Value.int IntKind.i64 y.2] 52)).cell? ⟨W.heap.size, 1, none⟩ = some (.int .i64 x.2) := by go_simp
  have g0 : ((W.alloc (Obj.cells #[Value.int IntKind.i64 x.1, Value.int IntKind.i64 x.2] 52)).alloc (Obj.cells #[Value.int IntKind.i64 y.1, Value.int IntKind.i64 y.2] 52)).cell? ⟨W.heap.size + 1, 0, none⟩ = some (.int .i64 y.1) := by go_simp
  have g1 : ((W.alloc (Obj.cells #[Value.int IntKind.i64 x.1, Value.int IntKind.i64 x.2] 52)).alloc (Obj.cells #[Value.int IntKind.i64 y.1, Value.int IntKind.i64 y.2] 52)).cell? ⟨W.heap.size + 1, 1, none⟩ = some (.int .i64 y.2) := by go_simp
  generalize hW2 : ((W.alloc (Obj.cells #[Value.int IntKind.i64 x.1, Value.int IntKind.i64 x.2] 52)).alloc (Obj.cells #[Value.int IntKind.i64 y.1, Value.int IntKind.i64 y.2] 52)) = W2 at f0 f1 g0 g1 ⊢
  refine wp_region_still_tail 10 (by kernel_rfl) (by kernel_rfl) ?_
  simp only [List.take_succ_cons, List.take_zero, List.drop_succ_cons, List.drop_zero]
  still_step
  still_step
  still_step
  still_step
  still_call (h1 _)
  still_step
  still_step
  still_step
  still_step
  still_call (h2 _)
  refine wpStill_nil ?_
  go_wp2_with (go_at_call 65; refine (Try.or65 _ _ _ r1 r2 r3 _ hr3.symm (by go_simp) (by go_simp)).mono ?_; rintro e w' ⟨rfl, rfl⟩)
  go_ret
  exact ⟨rfl, 1, _, by rw [← hW2, alloc_eq_grow, alloc_eq_grow, alloc_eq_grow, grow_grow, grow_grow]; rfl⟩

def cfP (x y : Int × Int) : Int := if Lib.compareInt x.1 y.1 = 0 then Lib.compareInt x.2 y.2 else Lib.compareInt x.1 y.1
def leP (x y : Int × Int) : Bool := decide (x.1 < y.1 ∨ x.1 = y.1 ∧ x.2 ≤ y.2)
def encP (x : Int × Int) : List Value := [.int .i64 x.1, .int .i64 x.2]

theorem ltOf_cfP (x y : Int × Int) : ltOf cfP x y = decide (x.1 < y.1 ∨ x.1 = y.1 ∧ x.2 < y.2) := by
  unfold ltOf cfP Lib.compareInt
  by_cases h1 : x.1 < y.1
  · simp [h1]
  · by_cases h2 : y.1 < x.1
    · have : x.1 ≠ y.1 := by omega
      simp [h1, h2, this]
    · have e : x.1 = y.1 := by omega
      by_cases h3 : x.2 < y.2
      · simp [e, h3]
      · by_cases h4 : y.2 < x.2 <;> simp [e, h3, h4]

theorem swoP : SWO (ltOf cfP) where
  irrefl x := by rw [ltOf_cfP]; simp
  trans x y z h1 h2 := by rw [ltOf_cfP, decide_eq_true_eq] at *; omega
  ntrans x y z h1 h2 := by rw [ltOf_cfP, decide_eq_false_iff_not] at *; omega

theorem leP_trans (a b c : Int × Int) (h1 : leP a b = true) (h2 : leP b c = true) : leP a c = true := by
  simp only [leP, decide_eq_true_eq] at *; omega
theorem leP_total (a b : Int × Int) : (leP a b || leP b a) = true := by
  simp only [leP, Bool.or_eq_true, decide_eq_true_eq]; omega
theorem leP_anti {a b : Int × Int} (h1 : leP a b = true) (h2 : leP b a = true) : a = b := by
  simp only [leP, decide_eq_true_eq] at *
  exact Prod.ext (by omega) (by omega)

/-- What is sorted in place is the sorted row. -/
theorem sorted_is {d d' : Array (Int × Int)} (hp : PermIn 0 d.size d d') (hs : SortedIn (ltOf cfP) 0 d.size d') : d'.toList = d.toList.mergeSort leP := by
  obtain ⟨h1, _, h3⟩ := hp
  have h4 : d'.toList.Perm d.toList := by
    have e1 : d'.extract 0 d.size = d' := by rw [← h1]; simp
    have e2 : d.extract 0 d.size = d := by simp
    rw [e1, e2] at h3
    exact h3
  refine List.Perm.eq_of_pairwise (le := fun a b => leP a b = true) (fun a b _ _ g1 g2 => leP_anti g1 g2) ?_ (List.pairwise_mergeSort leP_trans leP_total _) (h4.trans (List.mergeSort_perm _ _).symm)
  rw [List.pairwise_iff_getElem]
  intro i j hi hj hij
  have hi' : i < d'.size := by simpa using hi
  have hj' : j < d'.size := by simpa using hj
  have h5 := hs i j (Nat.zero_le _) hij (by omega)
  rw [ltOf_cfP, getElem!_pos d' j hj', getElem!_pos d' i hi', decide_eq_false_iff_not] at h5
  simp only [Array.getElem_toList, leP, decide_eq_true_eq]
  omega

theorem Try.sortFunc63 (blk off cap : Nat) (d : Array (Int × Int)) (w : World) (hH : HoldsK encP 2 w blk off d) (hblk : blk < w.heap.size) (hsz : d.size < 4611686018427387904) :
    Calls Try.prog 63 #[.slice (some ⟨blk, off, none⟩) d.size cap, .func (.func 64) #[] #[]] w fun e w' => e = .returned (.tuple #[]) ∧ ∃ n os, w' = sortWorldK encP 2 w blk off n (d.toList.mergeSort leP).toArray os := by
  have eg : ∀ args w, (callFunc 64 args).run Try.prog w = .ok (.enter 64 args) w := enters_of Try.func64 (by kernel_rfl) rfl
  have hcon := AnyQ.slices_SortFunc Try.sortP 2 Try.isAgg52 Try.sizeOf52 encP (fun _ => rfl) (fun x v hv => by simp [encP] at hv; rcases hv with rfl | rfl <;> rfl) cfP swoP 64 #[] blk off cap d w eg
    (fun m os dk _ x y => Try.closure64 x y _) hH hblk hsz
  change Calls Try.prog 63 _ _ _ at hcon
  refine hcon.mono ?_
  rintro e w' ⟨rfl, d', n, os, hp, hs, rfl⟩
  refine ⟨rfl, n, os, ?_⟩
  rw [← sorted_is hp hs]

/-! Pairs as numbers, one behind the other. -/

def pairsOf : List Int → List (Int × Int)
  | a :: b :: t => (a, b) :: pairsOf t
  | _ => []
def flatP (l : List (Int × Int)) : List Int := l.flatMap fun p => [p.1, p.2]

theorem flatP_len (l : List (Int × Int)) : (flatP l).length = l.length * 2 := by
  induction l with
  | nil => rfl
  | cons p l ih => simp only [flatP, List.flatMap_cons, List.length_append, List.length_cons, List.length_nil] at ih ⊢; omega
theorem pairsOf_flat (l : List (Int × Int)) : pairsOf (flatP l) = l := by
  induction l with
  | nil => rfl
  | cons p l ih =>
    show (p.1, p.2) :: pairsOf (flatP l) = p :: l
    rw [ih]
theorem flat_pairsOf : ∀ {n : Nat} {zs : List Int}, zs.length = n * 2 → flatP (pairsOf zs) = zs := by
  intro n
  induction n with
  | zero => intro zs h; cases zs <;> simp_all [pairsOf, flatP]
  | succ n ih =>
    intro zs h
    match zs, h with
    | [], h => simp at h
    | [_], h => simp at h; omega
    | a :: b :: t, h =>
      show a :: b :: flatP (pairsOf t) = a :: b :: t
      rw [ih (by simp at h; omega)]
theorem flatP_get : ∀ {l : List (Int × Int)} {i : Nat} {p : Int × Int}, l[i]? = some p → (flatP l)[i * 2]? = some p.1 ∧ (flatP l)[i * 2 + 1]? = some p.2 := by
  intro l
  induction l with
  | nil => intro i p h; simp at h
  | cons q l ih =>
    intro i p h
    cases i with
    | zero => simp at h; subst h; exact ⟨rfl, rfl⟩
    | succ i =>
      have := ih (i := i) (p := p) (by simpa using h)
      rw [show (i + 1) * 2 = i * 2 + 1 + 1 by omega]
      exact ⟨this.1, this.2⟩

/-- The cells of pairs. -/
theorem flatK_is (l : List (Int × Int)) : flatK encP 2 l.toArray = ((flatP l).map (Value.int .i64)).toArray := by
  apply Array.ext
  · simp [flatP_len]
  · intro t h1 h2
    have ht : t < l.length * 2 := by simpa using h1
    have hlt : t / 2 < l.length := by omega
    have e := get_flatK encP 2 l.toArray t (by simpa using ht)
    rw [getElem!_pos _ t h1] at e
    rw [e, getElem!_pos l.toArray (t / 2) (by simpa using hlt)]
    obtain ⟨g1, g2⟩ := flatP_get (List.getElem?_eq_getElem hlt)
    simp only [List.getElem_toArray, List.getElem_map]
    have hm : t % 2 = 0 ∨ t % 2 = 1 := by omega
    rcases hm with hm | hm
    · rw [hm]
      have : t / 2 * 2 = t := by omega
      rw [this] at g1
      have g3 := (List.getElem?_eq_some_iff.1 g1).2
      rw [g3]
      rfl
    · rw [hm]
      have : t / 2 * 2 + 1 = t := by omega
      rw [this] at g2
      have g3 := (List.getElem?_eq_some_iff.1 g2).2
      rw [g3]
      rfl

theorem putRow_id {w : World} {blk off : Nat} (zs : List Int) : putRow id w blk off (zs.map (Value.int .i64)).toArray = putRow (Value.int .i64) w blk off zs.toArray := by
  unfold putRow
  congr 1
  funext c
  unfold putCells
  apply Array.ext
  · simp
  · intro i h1 h2
    simp only [Array.getElem_mapIdx, List.size_toArray, List.length_map]
    split
    · rename_i h
      rw [getElem!_pos _ _ (by simp; omega), getElem!_pos _ _ (by simp; omega)]
      simp
    · rfl

theorem holds_id {w : World} {blk off : Nat} {zs : List Int} (h : Holds (Value.int .i64) w blk off zs.toArray) : Holds id w blk off (zs.map (Value.int .i64)).toArray := by
  intro j hj
  have hj' : j < zs.toArray.size := by simpa using hj
  obtain ⟨h1, h2⟩ := h j hj'
  refine ⟨?_, h2⟩
  rw [h1, getElem!_pos zs.toArray j hj', getElem!_pos (zs.map (Value.int .i64)).toArray j hj]
  simp

def sortF (zs : List Int) : List Int := flatP ((pairsOf zs).mergeSort leP)

/-- The contract over numbers. -/
theorem Try.sortFunc63_flat (blk cap n : Nat) (zs : List Int) (w : World) (hn : zs.length = n * 2) (hH : Holds (Value.int .i64) w blk 0 zs.toArray) (hblk : blk < w.heap.size) (hsz : n < 4611686018427387904) :
    Calls Try.prog 63 #[.slice (some ⟨blk, 0, none⟩) n cap, .func (.func 64) #[] #[]] w fun e w' => e = .returned (.tuple #[]) ∧ ∃ q os, w' = grow (putRow (Value.int .i64) (Sort.ahead w q) blk 0 (sortF zs).toArray) os := by
  have e := flat_pairsOf hn
  have hl : (pairsOf zs).length = n := by
    have := congrArg List.length e
    rw [flatP_len] at this
    omega
  have hK : HoldsK encP 2 w blk 0 (pairsOf zs).toArray := by
    unfold HoldsK
    rw [flatK_is, e]
    exact holds_id hH
  have h := Try.sortFunc63 blk 0 cap (pairsOf zs).toArray w hK hblk (by simpa [hl] using hsz)
  simp only [List.size_toArray, hl] at h
  refine h.mono ?_
  rintro e' w' ⟨rfl, q, os, rfl⟩
  refine ⟨rfl, q, os, ?_⟩
  unfold sortWorldK putRowK
  rw [flatK_is, putRow_id]
  rfl
theorem sortF_len (n : Nat) (zs : List Int) (h : zs.length = n * 2) : (sortF zs).length = zs.length := by
  have e := congrArg List.length (flat_pairsOf h)
  rw [flatP_len] at e
  rw [sortF, flatP_len, List.length_mergeSort, e]

theorem Try.sortFunc63_none (p : Option Addr) (cap : Nat) (w : World) : Calls Try.prog 63 #[.slice p 0 cap, .func (.func 64) #[] #[]] w fun e w' => e = .returned (.tuple #[]) ∧ w' = w :=
  AnyF.slices_SortFunc_none Try.sortP p cap _ w

/-! Cloning. -/

set_option maxRecDepth 100000 in
theorem Try.clone69_zero (a : Addr) (c : Nat) (w : World) : Calls Try.prog 69 #[.slice (some a) 0 c] w fun e w' => ∃ g, e = .returned (.slice (some ⟨g, 0, none⟩) 0 0) ∧ Below w.heap.size w w' := by
  have q22 : ∀ (w : World) (a : Option Addr) (n c n' c' : Nat), (binOp .eql 49 (.slice a n c) (.slice none n' c')).run Try.prog w = .ok (.bool a.isNone) w := fun w a n c n' c' => Lib.run_eql_slice_nil w _ _ a n c n' c' Try.underlying49
  go_enter Try.func69, Try.ntmps69
  go_wp2
  go_ret
  exact ⟨_, rfl, (Below.refl _ w).alloc (Nat.le_refl _) _⟩

set_option maxRecDepth 100000 in
theorem Try.clone72_zero (a : Addr) (c : Nat) (w : World) : Calls Try.prog 72 #[.slice (some a) 0 c] w fun e w' => ∃ g, e = .returned (.slice (some ⟨g, 0, none⟩) 0 0) ∧ Below w.heap.size w w' := by
  have q22 : ∀ (w : World) (a : Option Addr) (n c n' c' : Nat), (binOp .eql 28 (.slice a n c) (.slice none n' c')).run Try.prog w = .ok (.bool a.isNone) w := fun w a n c n' c' => Lib.run_eql_slice_nil w _ _ a n c n' c' Try.underlying28
  go_enter Try.func72, Try.ntmps72
  go_wp2
  go_ret
  exact ⟨_, rfl, (Below.refl _ w).alloc (Nat.le_refl _) _⟩

theorem info_of {P : Program} {t : TypeId} {a b c : Nat} (h : ((P.info? t).map fun i => (i.size, i.bytes, i.zero.map (·.cells.size))) = some (a, b, some c)) : ∃ i z, P.info? t = some i ∧ i.zero = some z ∧ i.size = a ∧ i.bytes = b ∧ z.cells.size = c := by
  cases hi : P.info? t with
  | none => rw [hi] at h; cases h
  | some i =>
    rw [hi] at h
    simp only [Option.map_some, Option.some.injEq, Prod.mk.injEq] at h
    obtain ⟨h1, h2, h3⟩ := h
    cases hz : i.zero with
    | none => rw [hz] at h3; cases h3
    | some z =>
      rw [hz] at h3
      simp only [Option.map_some, Option.some.injEq] at h3
      exact ⟨i, z, rfl, hz, h1, h2, h3⟩

theorem Try.clone69 (b off n c : Nat) (news : List Value) (w : World) (h1 : news.length = n * 2) (h2 : n ≤ maxLen) (h3 : n * 16 ≤ 140737488355328) (h4 : ∀ j u, news[j]? = some u → w.cell? ⟨b, off + j, none⟩ = some u) (h5 : ∀ u ∈ news, u.oneCell' = true) :
    Calls Try.prog 69 #[.slice (some ⟨b, off, none⟩) n c] w fun e' w' => ∃ v', e' = .returned v' ∧ w'.ownsRow w.heap.size 52 2 v' n news ∧ v' ≠ .slice none 0 0 ∧ Below w.heap.size w w' := by
  obtain ⟨i, z, k1, k2, k3, k4, k5⟩ := info_of (P := Try.prog) (t := 52) (a := 2) (b := 16) (c := 2) (by kernel_rfl)
  exact Try.slices_Clone_f69 i z 2 16 k1 k2 k3 k4 k5 (by decide) Try.sizeOf52 b off n c news w h1 h2 h3 h4 h5

theorem Try.clone72 (b off n c : Nat) (news : List Value) (w : World) (h1 : news.length = n * 1) (h2 : n ≤ maxLen) (h3 : n * 8 ≤ 140737488355328) (h4 : ∀ j u, news[j]? = some u → w.cell? ⟨b, off + j, none⟩ = some u) (h5 : ∀ u ∈ news, u.oneCell' = true) :
    Calls Try.prog 72 #[.slice (some ⟨b, off, none⟩) n c] w fun e' w' => ∃ v', e' = .returned v' ∧ w'.ownsRow w.heap.size 3 1 v' n news ∧ v' ≠ .slice none 0 0 ∧ Below w.heap.size w w' := by
  obtain ⟨i, z, k1, k2, k3, k4, k5⟩ := info_of (P := Try.prog) (t := 3) (a := 1) (b := 8) (c := 1) (by kernel_rfl)
  exact Try.slices_Clone_f72 i z 1 8 k1 k2 k3 k4 k5 (by decide) Try.sizeOf3 b off n c news w h1 h2 h3 h4 h5
end Go.Proofs
