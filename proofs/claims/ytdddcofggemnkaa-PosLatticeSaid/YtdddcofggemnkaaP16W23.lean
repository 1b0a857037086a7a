/- The walk through PosLattice, up to and through its open region. -/
import Derived.Test.YtdddcofggemnkaaP16W17
import Derived.Test.YtdddcofggemnkaaAmZ
import Derived.KernelRfl
namespace Go.Proofs.P16
set_option linter.all false
open Go Go.Am Go.Bdd
attribute [local irreducible] loadK storeK newK boxK tipK makeMapK buildTK buildK buildSliceK nilK binK unK condK convK eqvK pickK gK gDK vK extractK fieldK lookupK mapUpdateK appendK min2K max2K retK makeSliceK freezeK bytesK loopV blkK stayK sameK rangeK callK aFieldAddr aIndexAddr aIndexAddrA aLen aIndex aSlice

abbrev fnC (k : Nat) (f : BF) : List AV := [.list .shared k (f.nodes.map encNd), .bool f.one]
abbrev fnO (k : Nat) (f : BF) : AObj := .row 0 (fnC k f)
abbrev zO : AObj := .row 0 [.list .full 0 [], .bool false]

/-- PosLattice up to the open region. -/
def h5 : C := c5 (c5_13 (c5_12 .skip))

theorem head5 {n : Nat} {kn : KN} {kx : KX} {y0 y1 : AV} {m : Mem} : evK (Am.Call T) n h5 [(0, y0), (1, y1)] m kn kx =
    G5_13 (Am.Call T) n kn kx (fun x0 x1 x2 m => G5_12 (Am.Call T) n kn kx (fun x0 x1 m => kn [(1, x0), (5, x1)] m) x0 x1 x2 m) y0 y1 m := by
  unfold h5
  rw [g5]
  show evK (Am.Call T) n (c5_13 _) _ m kn kx = _
  rw [g5_13]
  congr 1

theorem wp5 {n : Nat} {kn : Env → Mem → Prop} {kx : X → Env → Mem → Prop} {y0 y1 : AV} {m : Mem} (h : Tells (G5_13 (Am.Call T) n (asN fun e m => WPc (Am.Call T) b5_11 e m kn kx) (asX kx) (fun x0 x1 x2 m => G5_12 (Am.Call T) n (asN fun e m => WPc (Am.Call T) b5_11 e m kn kx) (asX kx) (fun x0 x1 m => (asN fun e m => WPc (Am.Call T) b5_11 e m kn kx) [(1, x0), (5, x1)] m) x0 x1 x2 m) y0 y1 m) fun _ _ => True) :
    WPc (Am.Call T) b5 [(0, y0), (1, y1)] m kn kx := by
  have h1 : WPc (Am.Call T) h5 [(0, y0), (1, y1)] m (fun e m => WPc (Am.Call T) b5_11 e m kn kx) kx := wpc_tells (n := n) rfl head5 h
  exact h1

set_option maxRecDepth 100000 in
theorem tail5 {n : Nat} {kn : Env → Mem → Prop} {kx : X → Env → Mem → Prop} {y0 y1 y2 y3 : AV} {m : Mem} (h : Tells (S5_10 (Am.Call T) n (asN kn) (asX kx) y0 y1 y2 y3 m) fun _ _ => True) :
    WPc (Am.Call T) b5_10 [(1, y0), (8, y1), (9, y2), (10, y3)] m kn kx :=
  wpc_tells (n := n) (by kernel_rfl) (Eq.mp (by kernel_rfl) (show d5_10 (Am.Call T) n (asN kn) (asX kx) y0 y1 y2 y3 m = S5_10 (Am.Call T) n (asN kn) (asX kx) y0 y1 y2 y3 m by rw [l5_10])) h

theorem reg5 {kn : Env → Mem → Prop} {kx : X → Env → Mem → Prop} {y0 y1 : AV} {m : Mem} (h : Tree (Am.Call T) d5_0 (fun L m => WPc (Am.Call T) b5_10 ((L.keep [1, 8, 9, 10]).keep [1, 8, 9, 10]) m kn kx) d5_0.length 0 [(1, y0), (5, y1)] m) :
    WPc (Am.Call T) b5_11 [(1, y0), (5, y1)] m kn kx := h

theorem head_lat {m : Mem} {fr : Heap} {z : Int} {v : AV} {as' : List ActR} (hv : IsActs v as') (hl : as'.length < 1152921504606846976) (hb : ∀ a ∈ as', a.l.length < 1152921504606846976) (h : Sep m fr)
    (hT : ∀ (fv : List AV) (f g e : BF) (kf kg ke : Nat) (m : Mem), 0 ≤ z → z ≤ 5 → 3 ≤ fv.length → fv.length ≤ 20 → fv[fv.length - 1]? = some (.agg (fnC kf f)) → fv[fv.length - 2]? = some (.agg (fnC kg g)) → fv[fv.length - 3]? = some (.agg (fnC ke e)) →
      Gd 6 f → (kf = 3 ∨ f.nodes = []) → Gd 6 g → (kg = 3 ∨ g.nodes = []) → Gd 6 e → (ke = 3 ∨ e.nodes = []) → Sep m fr → WPc (Am.Call T) b5_11 [(1, .int .i64 z), (5, .list .shared 2 fv)] m (Yes f5 .nrm) (Yes f5)) :
    WPc (Am.Call T) b5 [(0, v), (1, .int .i64 z)] m (Yes f5 .nrm) (Yes f5) := by
  refine wp5 (n := 20) ?_
  have out : ∀ {M : Mem}, Sep M fr → Tells (callK (Am.Call T) (.func 15 [] []) false [] M fun a m => asX (Yes f5) .ret [(4, a)] m) fun _ _ => True := by
    intro M h
    refine Tells.call rfl (call15 h) ?_
    rintro _ _ ⟨rfl, h⟩
    exact tells_asX ⟨_, rfl, rfl⟩
  obtain ⟨k, els, rfl, hk, hel, he⟩ := hv
  unfold G5_13
  refine Tells.call rfl (call16 (as' := as') ⟨k, els, rfl, hk, hel, he⟩ hl h hb) ?_
  rintro _ _ (⟨u, w, rfl, h⟩ | ⟨fv, ts, fs, rfl, h, hfam, hlen⟩)
  · refine .extract (by rfl) ?_
    refine .extract (by rfl) ?_
    refine .extract (by rfl) ?_
    refine .not ?_
    refine .gtf ?_
    refine .gtf ?_
    refine .gtf ?_
    refine .picktt ?_
    refine .gtf ?_
    refine .gtf ?_
    refine .picktt ?_
    refine .gtf ?_
    refine .gtf ?_
    refine .picktt ?_
    refine .condtt ?_
    exact out h
  · have h1 := hfam.l1
    by_cases h3 : fv.length < 3
    · refine .extract (by rfl) ?_
      refine .extract (by rfl) ?_
      refine .extract (by rfl) ?_
      refine .not ?_
      refine .gff ?_
      refine .gff ?_
      refine .lenL ?_
      refine .gff ?_
      refine .lss ?_
      refine .pickff ?_
      refine .gTF (by rfl) (by first | assumption | omega) ?_
      refine .gTF (by rfl) (by first | assumption | omega) ?_
      refine .pickT (by first | assumption | omega) ?_
      refine .gtf ?_
      refine .gtf ?_
      refine .picktt ?_
      refine .condtt ?_
      exact out h
    by_cases hz : z < 0
    · refine .extract (by rfl) ?_
      refine .extract (by rfl) ?_
      refine .extract (by rfl) ?_
      refine .not ?_
      refine .gff ?_
      refine .gff ?_
      refine .lenL ?_
      refine .gff ?_
      refine .lss ?_
      refine .pickff ?_
      refine .gF (by rfl) (by first | assumption | omega) ?_
      refine .gF (by rfl) (by first | assumption | omega) ?_
      refine .lss ?_
      refine .pickF (by first | assumption | omega) ?_
      refine .gTF (by rfl) (by first | assumption | omega) ?_
      refine .gTF (by rfl) (by first | assumption | omega) ?_
      refine .pickT (by first | assumption | omega) ?_
      refine .condtt ?_
      exact out h
    by_cases hz5 : 5 < z
    · refine .extract (by rfl) ?_
      refine .extract (by rfl) ?_
      refine .extract (by rfl) ?_
      refine .not ?_
      refine .gff ?_
      refine .gff ?_
      refine .lenL ?_
      refine .gff ?_
      refine .lss ?_
      refine .pickff ?_
      refine .gF (by rfl) (by first | assumption | omega) ?_
      refine .gF (by rfl) (by first | assumption | omega) ?_
      refine .lss ?_
      refine .pickF (by first | assumption | omega) ?_
      refine .gF (by rfl) (by first | assumption | omega) ?_
      refine .gF (by rfl) (by first | assumption | omega) ?_
      refine .gtr ?_
      refine .pickF (by first | assumption | omega) ?_
      refine .condT (by first | assumption | omega) ?_
      exact out h
    have pick : ∀ i, i < fs.length → ∃ f k, fv[i]? = some (.agg (fnC k f)) ∧ Gd 6 f ∧ (k = 3 ∨ f.nodes = []) := by
      intro i hi
      obtain ⟨x, t, hfx, ⟨k, rfl, hk⟩, _, ht⟩ := hfam.ok i fs[i] (List.getElem?_eq_getElem hi)
      exact ⟨_, k, hfx, ht.gd, hk⟩
    obtain ⟨f, kf, a1, a2, a3⟩ := pick (fv.length - 1) (by omega)
    obtain ⟨g, kg, b1, b2, b3⟩ := pick (fv.length - 2) (by omega)
    obtain ⟨e, ke, c1, c2, c3⟩ := pick (fv.length - 3) (by omega)
    refine .extract (by rfl) ?_
    refine .extract (by rfl) ?_
    refine .extract (by rfl) ?_
    refine .not ?_
    refine .gff ?_
    refine .gff ?_
    refine .lenL ?_
    refine .gff ?_
    refine .lss ?_
    refine .pickff ?_
    refine .gF (by rfl) (by first | assumption | omega) ?_
    refine .gF (by rfl) (by first | assumption | omega) ?_
    refine .lss ?_
    refine .pickF (by first | assumption | omega) ?_
    refine .gF (by rfl) (by first | assumption | omega) ?_
    refine .gF (by rfl) (by first | assumption | omega) ?_
    refine .gtr ?_
    refine .pickF (by first | assumption | omega) ?_
    refine .condF (by first | assumption | omega) ?_
    exact tells_asN (hT fv f g e kf kg ke _ (by omega) (by omega) (by omega) (by omega) a1 b1 c1 a2 a3 b2 b3 c2 c3 h)

/-! The region. -/

theorem eo_len {call : Nat → List AV → Mem → Option (AV × Mem)} {L : Env} {M : Mem} {t k : Nat} {g : Tag} {xs : List AV} (h : L.get t = some (.list g k xs)) : evOp call L M (.len 1 (.t t)) = some (.int .i64 xs.length, M) := by
  simp only [evOp, Arg.ev, h, aLen]
theorem eo_sub {call : Nat → List AV → Mem → Option (AV × Mem)} {L : Env} {M : Mem} {t n k : Nat} (h : L.get t = some (.int .i64 n)) (hk : k ≤ n) (hn : n < 1000) : evOp call L M (.bin .sub (.t t) (.k (.int .i64 k))) = some (vI (n - k), M) := by
  have e : aBin .sub (.int .i64 n) (.int .i64 k) = some (vI (n - k)) := by
    show some (AV.int .i64 (IntKind.wrap .i64 ((n : Int) - k))) = _
    rw [inI _ (by omega)]
    congr 2; omega
  simp only [evOp, Arg.ev, h, e]
theorem eo_index {call : Nat → List AV → Mem → Option (AV × Mem)} {L : Env} {M : Mem} {t u k j : Nat} {g : Tag} {xs : List AV} {x : AV} (h : L.get t = some (.list g k xs)) (hj : L.get u = some (vI j)) (hx : xs[j]? = some x) : evOp call L M (.indexAddr k (.t t) (.t u)) = some (.cptr x, M) := by
  have hl := (List.getElem?_eq_some_iff.1 hx).1
  simp only [evOp, Arg.ev, h, hj, aIndexAddr]
  rw [if_pos ⟨by omega, by omega, trivial⟩]
  simp only [Int.toNat_natCast, hx]
theorem eo_loadC {call : Nat → List AV → Mem → Option (AV × Mem)} {L : Env} {M : Mem} {t : Nat} {cs : List AV} (h : L.get t = some (.cptr (.agg cs))) : evOp call L M (.load (some cs.length) (.t t)) = some (.agg cs, M) := by
  simp only [evOp, Arg.ev, h, Mem.load, AV.cells, if_true]

theorem Upd_app {l l' : Heap} {p : Nat} {o o' : AObj} (h : Upd l p o o' l') : ∀ {A : Heap}, Upd (A ++ l) p o o' (A ++ l') := by
  intro A
  induction A with
  | nil => exact h
  | cons x A ih => exact .s ih

/-- What stands in the places that are reckoned. -/
def vals5 (fv : List AV) (x y w : List AV) : List AV :=
  let l : AV := .list .shared 2 fv
  [l, l, vI fv.length, vI (fv.length - 1), .cptr (.agg x), .agg x, l, l, vI fv.length, vI (fv.length - 2), .cptr (.agg y), .agg y, l, l, vI fv.length, vI (fv.length - 3), .cptr (.agg w), .agg w]

def obj5 (s t : Bool) (p : Nat) (o : AObj) : Heap := if s then [(p, if t then o else zO)] else []

/-- How it stands when some of the operations have been. -/
structure At5 (fr : Heap) (env : Env) (fv x y w : List AV) (S : Nat → Bool) (L : Env) (M : Mem) : Prop where
  base : ∀ t, t < 8 → L.get t = env.get t
  av : ∀ i, i < 18 → S i = true → L.get (37 + i) = (vals5 fv x y w)[i]?
  n1 : S 18 = false → S 21 = false
  n2 : S 19 = false → S 22 = false
  n3 : S 20 = false → S 23 = false
  mem : ∃ a b c, (S 18 = true → L.get 8 = some (.ptr a 0 0)) ∧ (S 19 = true → L.get 9 = some (.ptr b 0 0)) ∧ (S 20 = true → L.get 10 = some (.ptr c 0 0)) ∧
    Sep M (obj5 (S 18) (S 21) a (.row 0 x) ++ (obj5 (S 19) (S 22) b (.row 0 y) ++ (obj5 (S 20) (S 23) c (.row 0 w) ++ fr)))

theorem At5.push {fr : Heap} {env : Env} {fv x y w : List AV} {S : Nat → Bool} {L : Env} {M : Mem} (h : At5 fr env fv x y w S L M) {i d : Nat} (hi : i < 18) (hd : d = 37 + i) {v : AV} (hv : (vals5 fv x y w)[i]? = some v) : At5 fr env fv x y w (fun j => S j || decide (j = i)) (pushL (some d) v L) M := by
  subst hd
  obtain ⟨a1, a2, a3, a4, a5, a, b, c, b1, b2, b3, b4⟩ := h
  have hS : ∀ j, 18 ≤ j → (S j || decide (j = i)) = S j := fun j hj => by rw [decide_eq_false (by omega), Bool.or_false]
  refine ⟨fun t ht => by rw [get_push, if_neg (by omega)]; exact a1 t ht, fun j hj hs => ?_, ?_, ?_, ?_, a, b, c, ?_, ?_, ?_, ?_⟩
  · rw [get_push]
    by_cases e : i = j
    · subst e; rw [if_pos rfl, hv]
    · rw [if_neg (by omega)]
      refine a2 j hj ?_
      rw [decide_eq_false (by omega), Bool.or_false] at hs
      exact hs
  · rw [hS 18 (by decide), hS 21 (by decide)]; exact a3
  · rw [hS 19 (by decide), hS 22 (by decide)]; exact a4
  · rw [hS 20 (by decide), hS 23 (by decide)]; exact a5
  · rw [hS 18 (by decide), get_push, if_neg (by omega)]; exact b1
  · rw [hS 19 (by decide), get_push, if_neg (by omega)]; exact b2
  · rw [hS 20 (by decide), get_push, if_neg (by omega)]; exact b3
  · rw [hS 18 (by decide), hS 19 (by decide), hS 20 (by decide), hS 21 (by decide), hS 22 (by decide), hS 23 (by decide)]; exact b4

theorem open5 {m : Mem} {fr : Heap} {z : Int} {fv x y w : List AV} (hlen : 3 ≤ fv.length) (hl20 : fv.length ≤ 20) (hx : fv[fv.length - 1]? = some (.agg x)) (hy : fv[fv.length - 2]? = some (.agg y)) (hw : fv[fv.length - 3]? = some (.agg w))
    (lx : x.length = 2) (ly : y.length = 2) (lw : w.length = 2) (sx : (AV.agg x).solid = true) (sy : (AV.agg y).solid = true) (sw : (AV.agg w).solid = true) (h : Sep m fr)
    (hT : ∀ (a b c : Nat) (m : Mem), Sep m ((a, .row 0 x) :: (b, .row 0 y) :: (c, .row 0 w) :: fr) →
      WPc (Am.Call T) b5_10 [(1, .int .i64 z), (8, .ptr a 0 0), (9, .ptr b 0 0), (10, .ptr c 0 0)] m (Yes f5 .nrm) (Yes f5)) :
    WPc (Am.Call T) b5_11 [(1, .int .i64 z), (5, .list .shared 2 fv)] m (Yes f5 .nrm) (Yes f5) := by
  refine reg5 (tree_inv (At5 fr [(1, .int .i64 z), (5, .list .shared 2 fv)] fv x y w) (by decide) ?_ ?_ ?_)
  · intro S L M i p hI hp hS hall
    have i5 : L.get 5 = some (.list .shared 2 fv) := (hI.base 5 (by decide)).trans rfl
    have av := hI.av
    match i, hp with
    | 0, hp => cases hp; exact ⟨_, _, eo_mov i5, hI.push (by decide) rfl rfl⟩
    | 1, hp => cases hp; exact ⟨_, _, eo_mov i5, hI.push (by decide) rfl rfl⟩
    | 2, hp => cases hp; exact ⟨_, _, eo_len (av 1 (by decide) (hall 1 (by decide) (by decide))), hI.push (by decide) rfl rfl⟩
    | 3, hp => cases hp; exact ⟨_, _, eo_sub (k := 1) (av 2 (by decide) (hall 2 (by decide) (by decide))) (by omega) (by omega), hI.push (by decide) rfl rfl⟩
    | 4, hp => cases hp; exact ⟨_, _, eo_index (av 0 (by decide) (hall 0 (by decide) (by decide))) (av 3 (by decide) (hall 3 (by decide) (by decide))) hx, hI.push (by decide) rfl rfl⟩
    | 5, hp => cases hp; exact ⟨_, _, lx ▸ eo_loadC (av 4 (by decide) (hall 4 (by decide) (by decide))), hI.push (by decide) rfl rfl⟩
    | 6, hp => cases hp; exact ⟨_, _, eo_mov i5, hI.push (by decide) rfl rfl⟩
    | 7, hp => cases hp; exact ⟨_, _, eo_mov i5, hI.push (by decide) rfl rfl⟩
    | 8, hp => cases hp; exact ⟨_, _, eo_len (av 7 (by decide) (hall 7 (by decide) (by decide))), hI.push (by decide) rfl rfl⟩
    | 9, hp => cases hp; exact ⟨_, _, eo_sub (k := 2) (av 8 (by decide) (hall 8 (by decide) (by decide))) (by omega) (by omega), hI.push (by decide) rfl rfl⟩
    | 10, hp => cases hp; exact ⟨_, _, eo_index (av 6 (by decide) (hall 6 (by decide) (by decide))) (av 9 (by decide) (hall 9 (by decide) (by decide))) hy, hI.push (by decide) rfl rfl⟩
    | 11, hp => cases hp; exact ⟨_, _, ly ▸ eo_loadC (av 10 (by decide) (hall 10 (by decide) (by decide))), hI.push (by decide) rfl rfl⟩
    | 12, hp => cases hp; exact ⟨_, _, eo_mov i5, hI.push (by decide) rfl rfl⟩
    | 13, hp => cases hp; exact ⟨_, _, eo_mov i5, hI.push (by decide) rfl rfl⟩
    | 14, hp => cases hp; exact ⟨_, _, eo_len (av 13 (by decide) (hall 13 (by decide) (by decide))), hI.push (by decide) rfl rfl⟩
    | 15, hp => cases hp; exact ⟨_, _, eo_sub (k := 3) (av 14 (by decide) (hall 14 (by decide) (by decide))) (by omega) (by omega), hI.push (by decide) rfl rfl⟩
    | 16, hp => cases hp; exact ⟨_, _, eo_index (av 12 (by decide) (hall 12 (by decide) (by decide))) (av 15 (by decide) (hall 15 (by decide) (by decide))) hw, hI.push (by decide) rfl rfl⟩
    | 17, hp => cases hp; exact ⟨_, _, lw ▸ eo_loadC (av 16 (by decide) (hall 16 (by decide) (by decide))), hI.push (by decide) rfl rfl⟩
    | 18, hp =>
      cases hp
      obtain ⟨a1, a2, a3, a4, a5, a, b, c, b1, b2, b3, b4⟩ := hI
      have hS5 := a3 hS
      have hv : ∀ j, j ≠ 18 → (S j || decide (j = 18)) = S j := fun j hj => by rw [decide_eq_false hj, Bool.or_false]
      refine ⟨_, _, eo_new, ⟨fun t ht => by rw [get_push, if_neg (by omega)]; exact a1 t ht, fun j hj hs => ?_, fun hs => ?_, ?_, ?_, M.objs.length, b, c, fun hs => ?_, ?_, ?_, ?_⟩⟩
      · rw [get_push, if_neg (by omega)]; rw [hv j (by omega)] at hs; exact a2 j hj hs
      · simp at hs
      · rw [hv 19 (by decide), hv 22 (by decide)]; exact a4
      · rw [hv 20 (by decide), hv 23 (by decide)]; exact a5
      · rw [get_push, if_pos rfl]
      · rw [hv 19 (by decide), get_push, if_neg (by decide)]; exact b2
      · rw [hv 20 (by decide), get_push, if_neg (by decide)]; exact b3
      · rw [hv 19 (by decide), hv 20 (by decide), hv 21 (by decide), hv 22 (by decide), hv 23 (by decide), hS5]
        rw [hS] at b4
        simpa [obj5] using b4.push zO
    | 19, hp =>
      cases hp
      obtain ⟨a1, a2, a3, a4, a5, a, b, c, b1, b2, b3, b4⟩ := hI
      have hS5 := a4 hS
      have hv : ∀ j, j ≠ 19 → (S j || decide (j = 19)) = S j := fun j hj => by rw [decide_eq_false hj, Bool.or_false]
      refine ⟨_, _, eo_new, ⟨fun t ht => by rw [get_push, if_neg (by omega)]; exact a1 t ht, fun j hj hs => ?_, ?_, fun hs => ?_, ?_, a, M.objs.length, c, ?_, fun hs => ?_, ?_, ?_⟩⟩
      · rw [get_push, if_neg (by omega)]; rw [hv j (by omega)] at hs; exact a2 j hj hs
      · rw [hv 18 (by decide), hv 21 (by decide)]; exact a3
      · simp at hs
      · rw [hv 20 (by decide), hv 23 (by decide)]; exact a5
      · rw [hv 18 (by decide), get_push, if_neg (by decide)]; exact b1
      · rw [get_push, if_pos rfl]
      · rw [hv 20 (by decide), get_push, if_neg (by decide)]; exact b3
      · rw [hv 18 (by decide), hv 20 (by decide), hv 21 (by decide), hv 22 (by decide), hv 23 (by decide), hS5]
        rw [hS] at b4
        have h1 : Sep (M.push zO) ((M.objs.length, zO) :: (obj5 (S 18) (S 21) a (.row 0 x) ++ (obj5 (S 20) (S 23) c (.row 0 w) ++ fr))) := b4.push zO
        simpa [obj5] using h1.perm List.perm_middle.symm
    | 20, hp =>
      cases hp
      obtain ⟨a1, a2, a3, a4, a5, a, b, c, b1, b2, b3, b4⟩ := hI
      have hS5 := a5 hS
      have hv : ∀ j, j ≠ 20 → (S j || decide (j = 20)) = S j := fun j hj => by rw [decide_eq_false hj, Bool.or_false]
      refine ⟨_, _, eo_new, ⟨fun t ht => by rw [get_push, if_neg (by omega)]; exact a1 t ht, fun j hj hs => ?_, ?_, ?_, fun hs => ?_, a, b, M.objs.length, ?_, ?_, fun hs => ?_, ?_⟩⟩
      · rw [get_push, if_neg (by omega)]; rw [hv j (by omega)] at hs; exact a2 j hj hs
      · rw [hv 18 (by decide), hv 21 (by decide)]; exact a3
      · rw [hv 19 (by decide), hv 22 (by decide)]; exact a4
      · simp at hs
      · rw [hv 18 (by decide), get_push, if_neg (by decide)]; exact b1
      · rw [hv 19 (by decide), get_push, if_neg (by decide)]; exact b2
      · rw [get_push, if_pos rfl]
      · rw [hv 18 (by decide), hv 19 (by decide), hv 21 (by decide), hv 22 (by decide), hv 23 (by decide), hS5]
        rw [hS] at b4
        have h1 : Sep (M.push zO) ((M.objs.length, zO) :: (obj5 (S 18) (S 21) a (.row 0 x) ++ (obj5 (S 19) (S 22) b (.row 0 y) ++ fr))) := b4.push zO
        rw [← List.append_assoc] at h1
        have h2 := h1.perm List.perm_middle.symm
        rw [List.append_assoc] at h2
        simpa [obj5] using h2
    | 21, hp =>
      cases hp
      obtain ⟨a1, a2, a3, a4, a5, a, b, c, b1, b2, b3, b4⟩ := hI
      have h18 := hall 18 (by decide) (by decide)
      have i42 := a2 5 (by decide) (hall 5 (by decide) (by decide))
      have hv : ∀ j, j ≠ 21 → (S j || decide (j = 21)) = S j := fun j hj => by rw [decide_eq_false hj, Bool.or_false]
      rw [h18, hS] at b4
      have ho : M.objs[a]? = some zO := b4.at_ (a, zO) (by simp [obj5])
      refine ⟨_, _, eo_store (b1 h18) i42 ho lx sx, ⟨a1, fun j hj hs => ?_, fun hs => ?_, ?_, ?_, a, b, c, ?_, ?_, ?_, ?_⟩⟩
      · rw [hv j (by omega)] at hs; exact a2 j hj hs
      · rw [hv 18 (by decide), h18] at hs; cases hs
      · rw [hv 19 (by decide), hv 22 (by decide)]; exact a4
      · rw [hv 20 (by decide), hv 23 (by decide)]; exact a5
      · exact fun _ => b1 h18
      · rw [hv 19 (by decide)]; exact b2
      · rw [hv 20 (by decide)]; exact b3
      · rw [hv 18 (by decide), hv 19 (by decide), hv 20 (by decide), hv 22 (by decide), hv 23 (by decide), h18]
        simpa [obj5] using b4.put (o' := .row 0 x) .z
    | 22, hp =>
      cases hp
      obtain ⟨a1, a2, a3, a4, a5, a, b, c, b1, b2, b3, b4⟩ := hI
      have h19 := hall 19 (by decide) (by decide)
      have i48 := a2 11 (by decide) (hall 11 (by decide) (by decide))
      have hv : ∀ j, j ≠ 22 → (S j || decide (j = 22)) = S j := fun j hj => by rw [decide_eq_false hj, Bool.or_false]
      rw [h19, hS] at b4
      have ho : M.objs[b]? = some zO := b4.at_ (b, zO) (by simp [obj5])
      refine ⟨_, _, eo_store (b2 h19) i48 ho ly sy, ⟨a1, fun j hj hs => ?_, ?_, fun hs => ?_, ?_, a, b, c, ?_, ?_, ?_, ?_⟩⟩
      · rw [hv j (by omega)] at hs; exact a2 j hj hs
      · rw [hv 18 (by decide), hv 21 (by decide)]; exact a3
      · rw [hv 19 (by decide), h19] at hs; cases hs
      · rw [hv 20 (by decide), hv 23 (by decide)]; exact a5
      · rw [hv 18 (by decide)]; exact b1
      · exact fun _ => b2 h19
      · rw [hv 20 (by decide)]; exact b3
      · rw [hv 18 (by decide), hv 19 (by decide), hv 20 (by decide), hv 21 (by decide), hv 23 (by decide), h19]
        simpa [obj5] using b4.put (o' := .row 0 y) (Upd_app .z)
    | 23, hp =>
      cases hp
      obtain ⟨a1, a2, a3, a4, a5, a, b, c, b1, b2, b3, b4⟩ := hI
      have h20 := hall 20 (by decide) (by decide)
      have i54 := a2 17 (by decide) (hall 17 (by decide) (by decide))
      have hv : ∀ j, j ≠ 23 → (S j || decide (j = 23)) = S j := fun j hj => by rw [decide_eq_false hj, Bool.or_false]
      rw [h20, hS] at b4
      have ho : M.objs[c]? = some zO := b4.at_ (c, zO) (by simp [obj5])
      refine ⟨_, _, eo_store (b3 h20) i54 ho lw sw, ⟨a1, fun j hj hs => ?_, ?_, ?_, fun hs => ?_, a, b, c, ?_, ?_, ?_, ?_⟩⟩
      · rw [hv j (by omega)] at hs; exact a2 j hj hs
      · rw [hv 18 (by decide), hv 21 (by decide)]; exact a3
      · rw [hv 19 (by decide), hv 22 (by decide)]; exact a4
      · rw [hv 20 (by decide), h20] at hs; cases hs
      · rw [hv 18 (by decide)]; exact b1
      · rw [hv 19 (by decide)]; exact b2
      · exact fun _ => b3 h20
      · rw [hv 18 (by decide), hv 19 (by decide), hv 20 (by decide), hv 21 (by decide), hv 22 (by decide), h20]
        simpa [obj5] using b4.put (o' := .row 0 w) (Upd_app (Upd_app .z))
    | i + 24, hp => cases hp
  · intro S L M hI hall
    obtain ⟨a1, a2, a3, a4, a5, a, b, c, b1, b2, b3, b4⟩ := hI
    rw [hall 18 (by decide), hall 19 (by decide), hall 20 (by decide), hall 21 (by decide), hall 22 (by decide), hall 23 (by decide)] at b4
    have i8 := b1 (hall 18 (by decide))
    have i9 := b2 (hall 19 (by decide))
    have i10 := b3 (hall 20 (by decide))
    have e : (L.keep [1, 8, 9, 10]).keep [1, 8, 9, 10] = [(1, .int .i64 z), (8, .ptr a 0 0), (9, .ptr b 0 0), (10, .ptr c 0 0)] := by
      have e1 := a1 1 (by decide)
      simp only [Env.keep, e1, i8, i9, i10]
      rfl
    show WPc (Am.Call T) b5_10 ((L.keep [1, 8, 9, 10]).keep [1, 8, 9, 10]) M (Yes f5 .nrm) (Yes f5)
    rw [e]
    exact hT a b c M (by simpa [obj5] using b4)
  · exact ⟨fun t _ => rfl, fun i _ h => by simp at h, fun _ => rfl, fun _ => rfl, fun _ => rfl, 0, 0, 0, fun h => by simp at h, fun h => by simp at h, fun h => by simp at h, by simpa [obj5] using h⟩
end Go.Proofs.P16
