/- The walk through the places of pairs; calls that leave all as it is. -/
import Derived.Test.YtdddcofggemnkaaP17V16
namespace Go.Proofs.P17
set_option linter.all false
open Go Go.Am
attribute [local irreducible] loadK storeK newK boxK tipK makeMapK buildTK buildK buildSliceK nilK binK unK condK convK eqvK pickK gK gDK vK extractK fieldK lookupK mapUpdateK appendK min2K max2K retK makeSliceK freezeK bytesK loopV blkK stayK sameK rangeK callK aFieldAddr aIndexAddr aIndexAddrA aLen aIndex aSlice

theorem Tells.bs3 {m : Mem} {P : AV → Mem → Prop} {k1 k2 k3 : IntKind} {a b c : Int} {z : AV} {k : KV} (hk : Tells (k (.list .full 1 [.int k1 a, .int k2 b, .int k3 c]) m) P) : Tells (buildSliceK 1 [z] 3 false [(0 * 1, 1, AV.untag (.int k1 a)), (1 * 1, 1, AV.untag (.int k2 b)), (2 * 1, 1, AV.untag (.int k3 c))] m k) P := by
  refine Tells.of_eq ?_ hk
  simp [buildSliceK, fillParts, rep, AV.untag, AV.cells, AV.solid, setCells, toElems]
theorem Tells.bs4 {m : Mem} {P : AV → Mem → Prop} {k1 k2 k3 k4 : IntKind} {a b c d : Int} {z : AV} {k : KV} (hk : Tells (k (.list .full 1 [.int k1 a, .int k2 b, .int k3 c, .int k4 d]) m) P) : Tells (buildSliceK 1 [z] 4 false [(0 * 1, 1, AV.untag (.int k1 a)), (1 * 1, 1, AV.untag (.int k2 b)), (2 * 1, 1, AV.untag (.int k3 c)), (3 * 1, 1, AV.untag (.int k4 d))] m k) P := by
  refine Tells.of_eq ?_ hk
  simp [buildSliceK, fillParts, rep, AV.untag, AV.cells, AV.solid, setCells, toElems]

section
variable {m : Mem} {l : Heap} {P : AV → Mem → Prop} {x y : AV} {ps : List (Int × Int)} {zs : List Int} {a b : Int} {bb : Bool} {k : KV}
theorem _root_.Go.Am.Tells.eqbF {a b : Bool} (h : a = b) {k : AV → Rho} (hk : Tells (k (.bool false)) P) : Tells (eqvK ⟨[.b], false⟩ true (.bool a) (.bool b) k) P := by
  subst h
  refine Tells.neB ?_
  rw [decide_eq_false (by simp)]
  exact hk
theorem _root_.Go.Am.Tells.c31 (hx : PSl x l ps) (hl : ps.length < 4294967296) (hb : hasR ps a b = bb) (hs : Sep m l) (hk : ∀ m', Sep m' l → Tells (k (.bool bb) m') P) : Tells (callK (Am.Call T) (.func 31 [] []) false [x, .int .i64 a, .int .i64 b] m k) P := by
  refine Tells.call (args := [x, .int .i64 a, .int .i64 b]) (by simp [hx.untag]; exact ⟨rfl, rfl⟩) (call31 hx hl hs) ?_
  rintro _ m ⟨rfl, h⟩
  rw [hb]
  exact hk m h
theorem _root_.Go.Am.Tells.c42 (hx : PSl x l ps) (hl : ps.length < 4294967296) (hb : hasR ps a b = bb) (hs : Sep m l) (hk : ∀ m', Sep m' l → Tells (k (.bool bb) m') P) : Tells (callK (Am.Call T) (.func 42 [] []) false [x, .int .i64 a, .int .i64 b] m k) P := by
  refine Tells.call (args := [x, .int .i64 a, .int .i64 b]) (by simp [hx.untag]; exact ⟨rfl, rfl⟩) (call42 hx hl hs) ?_
  rintro _ m ⟨rfl, h⟩
  rw [hb]
  exact hk m h
theorem _root_.Go.Am.Tells.c40 (hx : ISl x l zs) (hl : zs.length < 4294967296) (hb : inR zs a = bb) (hs : Sep m l) (hk : ∀ m', Sep m' l → Tells (k (.bool bb) m') P) : Tells (callK (Am.Call T) (.func 40 [] []) false [x, .int .i64 a] m k) P := by
  refine Tells.call (args := [x, .int .i64 a]) (by simp [hx.untag]; rfl) (call40 hx hl hs) ?_
  rintro _ m ⟨rfl, h⟩
  rw [hb]
  exact hk m h
theorem _root_.Go.Am.Tells.c41 (hx : PSl x l ps) (hy : ISl y l zs) (hl : ps.length < 4294967296) (hl2 : zs.length < 4294967296) (hb : relR ps zs a = bb) (hs : Sep m l) (hk : ∀ m', Sep m' l → Tells (k (.bool bb) m') P) : Tells (callK (Am.Call T) (.func 41 [] []) false [x, y, .int .i64 a] m k) P := by
  refine Tells.call (args := [x, y, .int .i64 a]) (by simp [hx.untag, hy.untag]; rfl) (call41 hx hy hl hl2 hs) ?_
  rintro _ m ⟨rfl, h⟩
  rw [hb]
  exact hk m h
theorem _root_.Go.Am.Tells.c30 (hx : PSl x l ps) (hl : ps.length < 4294967296) (hf : FormP ps) (hs : Sep m l) (hk : ∀ m', Sep m' l → Tells (k (.bool true) m') P) : Tells (callK (Am.Call T) (.func 30 [] []) false [x] m k) P := by
  refine Tells.call (args := [x]) (by simp [hx.untag]) (call30 hx hl hf hs) ?_
  rintro _ m ⟨rfl, h⟩
  exact hk m h
theorem _root_.Go.Am.Tells.c38 (hx : ISl x l zs) (hl : zs.length < 4294967296) (hf : RiseP zs) (hs : Sep m l) (hk : ∀ m', Sep m' l → Tells (k (.bool true) m') P) : Tells (callK (Am.Call T) (.func 38 [] []) false [x] m k) P := by
  refine Tells.call (args := [x]) (by simp [hx.untag]) (call38 hx hl hf hs) ?_
  rintro _ m ⟨rfl, h⟩
  exact hk m h
end

def bothE (p : Int × Int) : List Int := [p.1, p.2]
def endsL (ps qs : List (Int × Int)) (zs : List Int) : List Int := [-1, 0, 1, 7] ++ zs ++ ps.flatMap bothE ++ qs.flatMap bothE
theorem both_len {d : List (Int × Int)} : (d.flatMap bothE).length = d.length * 2 := by
  induction d with
  | nil => rfl
  | cons p d ih => simp only [List.flatMap_cons, List.length_append, ih, bothE, List.length_cons, List.length_nil]; omega

set_option maxHeartbeats 8000000 in
theorem call39 {m : Mem} {l : Heap} {v w x : AV} {ps qs : List (Int × Int)} {zs : List Int} (hv : PSl v l ps) (hw : PSl w l qs) (hx : ISl x l zs) (hlp : ps.length ≤ 1000000) (hlq : qs.length ≤ 1000000) (hlz : zs.length ≤ 1000000) (hs : Sep m l) :
    Tells (Am.Call T 39 [v, w, x] m) fun r m' => r = .list .shared 1 ((endsL ps qs zs).map vZ) ∧ Sep m' l := by
  refine Tells.fn (ps.length + qs.length + 2) rfl F39_ok rfl ?_
  show Tells (S39 (Am.Call T) (ps.length + qs.length + 2) m v w x) _
  have h : Sep ⟨m.objs, none⟩ l := hs.objs rfl
  unfold S39 G39
  refine Tells.bs4 ?_
  refine Tells.appendON (g := .full) (H := []) (xs := [vZ (-1), vZ 0, vZ 1, vZ 7]) (ys := zs.map vZ) OwnT.full h (.inl rfl) (hx.elems h) (by rw [List.length_map]; simp only [room, List.length_cons, List.length_nil]; omega) (by omega) vZs_untag vZs_cells ?_
  intro g0 H0 m how0 h
  have e0 : [vZ (-1), vZ 0, vZ 1, vZ 7] ++ zs.map vZ = ([-1, 0, 1, 7] ++ zs).map vZ := by rw [List.map_append]; rfl
  have how1 : OwnT g0 H0 ([-1, 0, 1, 7] ++ zs).length := by rw [List.length_append]; rw [List.length_map] at how0; exact how0
  rw [e0]
  clear how0
  refine Tells.loop (fun j vs m => ∃ (i : Nat) (g : Tag) (H : Heap), i + j = ps.length ∧ vs = [v, w, .list g 1 (([-1, 0, 1, 7] ++ zs ++ (ps.take i).flatMap bothE).map vZ), vI i] ∧ OwnT g H ([-1, 0, 1, 7] ++ zs ++ (ps.take i).flatMap bothE).length ∧ Sep m (H ++ l)) ?_ (i := ps.length) (by omega) ?_
  · rintro j vs m L2 ⟨i, g, H, j1, rfl, how, h⟩ hL
    have hvv := hv.under (H := H)
    unfold S39_2 G39_2
    by_cases hi : i < ps.length
    · obtain ⟨p, hp⟩ : ∃ p, ps[i]? = some p := ⟨_, List.getElem?_eq_getElem hi⟩
      have htk : [-1, 0, 1, 7] ++ zs ++ (ps.take (i + 1)).flatMap bothE = [-1, 0, 1, 7] ++ zs ++ (ps.take i).flatMap bothE ++ [p.1, p.2] := by
        rw [List.take_add_one, hp, List.flatMap_append, ← List.append_assoc]; simp [bothE]
      have hbl := both_len (d := ps.take i)
      rw [List.length_take] at hbl
      have hll : ([-1, 0, 1, 7] ++ zs ++ (ps.take i).flatMap bothE).length = 4 + zs.length + min i ps.length * 2 := by
        rw [List.length_append, List.length_append, hbl]; rfl
      refine .psLen hvv ?_
      refine .lss ?_
      refine .condT (by first | assumption | omega) ?_
      refine .psIdx hvv (j := i) (by rfl) hp ?_; intro ad had
      refine .pa0 ‹_› ?_; intro bd hbd
      refine .pcLoad h ‹_› ?_
      refine .psIdx hvv (j := i) (by rfl) hp ?_; intro ad had
      refine .pa1 ‹_› ?_; intro bd hbd
      refine .pcLoad h ‹_› ?_
      refine .bs2 ?_
      refine Tells.appendON (ys := [vZ p.1, vZ p.2]) (by rw [List.length_map]; exact how) h (.inl rfl) (elems_lst (.inl rfl)) (by rw [List.length_map, hll]; simp only [room, List.length_cons, List.length_nil]; omega) (by omega) (by simp [AV.untag, AV.untag1]) (by simp [AV.cells]) ?_
      intro g' H' m how' h
      refine .stay (by first | exact stayK_nil | (repeat first | exact stayK_nil | refine stayK_cons ?_ ?_ | refine stayK_not ?_ | exact stayN_zero | refine stayN_succ (by rfl) (by first | exact Sep.load1 ‹_› (by first | exact .z | exact .s .z | exact .s (.s .z) | exact .s (.s (.s .z)) | exact .s (.s (.s (.s .z))) | exact .s (.s (.s (.s (.s .z)))) | exact .s (.s (.s (.s (.s (.s .z))))) | exact .s (.s (.s (.s (.s (.s (.s .z)))))) | exact .s (.s (.s (.s (.s (.s (.s (.s .z))))))) | exact .s (.s (.s (.s (.s (.s (.s (.s (.s .z)))))))) | exact .s (.s (.s (.s (.s (.s (.s (.s (.s (.s .z))))))))) | exact .s (.s (.s (.s (.s (.s (.s (.s (.s (.s (.s .z)))))))))) | exact .s (.s (.s (.s (.s (.s (.s (.s (.s (.s (.s (.s .z))))))))))) | exact .s (.s (.s (.s (.s (.s (.s (.s (.s (.s (.s (.s (.s .z))))))))))))) (by rfl) | exact Sep.loadA ‹_› (by first | exact .z | exact .s .z | exact .s (.s .z) | exact .s (.s (.s .z)) | exact .s (.s (.s (.s .z))) | exact .s (.s (.s (.s (.s .z)))) | exact .s (.s (.s (.s (.s (.s .z))))) | exact .s (.s (.s (.s (.s (.s (.s .z)))))) | exact .s (.s (.s (.s (.s (.s (.s (.s .z))))))) | exact .s (.s (.s (.s (.s (.s (.s (.s (.s .z)))))))) | exact .s (.s (.s (.s (.s (.s (.s (.s (.s (.s .z))))))))) | exact .s (.s (.s (.s (.s (.s (.s (.s (.s (.s (.s .z)))))))))) | exact .s (.s (.s (.s (.s (.s (.s (.s (.s (.s (.s (.s .z))))))))))) | exact .s (.s (.s (.s (.s (.s (.s (.s (.s (.s (.s (.s (.s .z))))))))))))) (by rfl) | rfl) ?_)) ?_
      refine .add (by rfl) (by omega) ?_
      refine hL (j - 1) _ _ (by omega) ⟨i + 1, g', H', by omega, ?_, ?_, h⟩
      · rw [htk, List.map_append (l₂ := [p.1, p.2])]; rfl
      · rw [htk, List.length_append (bs := [p.1, p.2])]; rw [List.length_map] at how'; exact how'
    · have hie : i = ps.length := by omega
      subst hie
      rw [List.take_length] at how ⊢
      have hbp := both_len (d := ps)
      refine .psLen hvv ?_
      refine .lss ?_
      refine .condF (by first | assumption | omega) ?_
      refine .blk ?_
      unfold S39_7 G39_7
      refine Tells.loop (fun j vs m => ∃ (i : Nat) (g : Tag) (H : Heap), i + j = qs.length ∧ vs = [w, .list g 1 (([-1, 0, 1, 7] ++ zs ++ ps.flatMap bothE ++ (qs.take i).flatMap bothE).map vZ), vI i] ∧ OwnT g H ([-1, 0, 1, 7] ++ zs ++ ps.flatMap bothE ++ (qs.take i).flatMap bothE).length ∧ Sep m (H ++ l)) ?_ (i := qs.length) (by omega) ?_
      · rintro j vs m L2 ⟨i, g, H, j1, rfl, how, h⟩ hL
        have hvv := hw.under (H := H)
        unfold S39_5 G39_5
        by_cases hi : i < qs.length
        · obtain ⟨p, hp⟩ : ∃ p, qs[i]? = some p := ⟨_, List.getElem?_eq_getElem hi⟩
          have htk : [-1, 0, 1, 7] ++ zs ++ ps.flatMap bothE ++ (qs.take (i + 1)).flatMap bothE = [-1, 0, 1, 7] ++ zs ++ ps.flatMap bothE ++ (qs.take i).flatMap bothE ++ [p.1, p.2] := by
            rw [List.take_add_one, hp, List.flatMap_append, ← List.append_assoc]; simp [bothE]
          have hbl := both_len (d := qs.take i)
          rw [List.length_take] at hbl
          have hll : ([-1, 0, 1, 7] ++ zs ++ ps.flatMap bothE ++ (qs.take i).flatMap bothE).length = 4 + zs.length + ps.length * 2 + min i qs.length * 2 := by
            rw [List.length_append, List.length_append, List.length_append, hbl, hbp]; rfl
          refine .psLen hvv ?_
          refine .lss ?_
          refine .condT (by first | assumption | omega) ?_
          refine .psIdx hvv (j := i) (by rfl) hp ?_; intro ad had
          refine .pa0 ‹_› ?_; intro bd hbd
          refine .pcLoad h ‹_› ?_
          refine .psIdx hvv (j := i) (by rfl) hp ?_; intro ad had
          refine .pa1 ‹_› ?_; intro bd hbd
          refine .pcLoad h ‹_› ?_
          refine .bs2 ?_
          refine Tells.appendON (ys := [vZ p.1, vZ p.2]) (by rw [List.length_map]; exact how) h (.inl rfl) (elems_lst (.inl rfl)) (by rw [List.length_map, hll]; simp only [room, List.length_cons, List.length_nil]; omega) (by omega) (by simp [AV.untag, AV.untag1]) (by simp [AV.cells]) ?_
          intro g' H' m how' h
          refine .stay (by first | exact stayK_nil | (repeat first | exact stayK_nil | refine stayK_cons ?_ ?_ | refine stayK_not ?_ | exact stayN_zero | refine stayN_succ (by rfl) (by first | exact Sep.load1 ‹_› (by first | exact .z | exact .s .z | exact .s (.s .z) | exact .s (.s (.s .z)) | exact .s (.s (.s (.s .z))) | exact .s (.s (.s (.s (.s .z)))) | exact .s (.s (.s (.s (.s (.s .z))))) | exact .s (.s (.s (.s (.s (.s (.s .z)))))) | exact .s (.s (.s (.s (.s (.s (.s (.s .z))))))) | exact .s (.s (.s (.s (.s (.s (.s (.s (.s .z)))))))) | exact .s (.s (.s (.s (.s (.s (.s (.s (.s (.s .z))))))))) | exact .s (.s (.s (.s (.s (.s (.s (.s (.s (.s (.s .z)))))))))) | exact .s (.s (.s (.s (.s (.s (.s (.s (.s (.s (.s (.s .z))))))))))) | exact .s (.s (.s (.s (.s (.s (.s (.s (.s (.s (.s (.s (.s .z))))))))))))) (by rfl) | exact Sep.loadA ‹_› (by first | exact .z | exact .s .z | exact .s (.s .z) | exact .s (.s (.s .z)) | exact .s (.s (.s (.s .z))) | exact .s (.s (.s (.s (.s .z)))) | exact .s (.s (.s (.s (.s (.s .z))))) | exact .s (.s (.s (.s (.s (.s (.s .z)))))) | exact .s (.s (.s (.s (.s (.s (.s (.s .z))))))) | exact .s (.s (.s (.s (.s (.s (.s (.s (.s .z)))))))) | exact .s (.s (.s (.s (.s (.s (.s (.s (.s (.s .z))))))))) | exact .s (.s (.s (.s (.s (.s (.s (.s (.s (.s (.s .z)))))))))) | exact .s (.s (.s (.s (.s (.s (.s (.s (.s (.s (.s (.s .z))))))))))) | exact .s (.s (.s (.s (.s (.s (.s (.s (.s (.s (.s (.s (.s .z))))))))))))) (by rfl) | rfl) ?_)) ?_
          refine .add (by rfl) (by omega) ?_
          refine hL (j - 1) _ _ (by omega) ⟨i + 1, g', H', by omega, ?_, ?_, h⟩
          · rw [htk, List.map_append (l₂ := [p.1, p.2])]; rfl
          · rw [htk, List.length_append (bs := [p.1, p.2])]; rw [List.length_map] at how'; exact how'
        · have hie : i = qs.length := by omega
          subst hie
          rw [List.take_length] at how ⊢
          refine .psLen hvv ?_
          refine .lss ?_
          refine .condF (by first | assumption | omega) ?_
          refine .blk ?_
          refine Tells.ret rfl rfl ?_
          intro m hobj
          exact ⟨rfl, (h.objs hobj).right⟩
      · exact ⟨0, g, H, by omega, by rw [List.take_zero, List.flatMap_nil, List.append_nil]; rfl, by rw [List.take_zero, List.flatMap_nil, List.append_nil]; exact how, h⟩
  · exact ⟨0, g0, H0, by omega, by rw [List.take_zero, List.flatMap_nil, List.append_nil]; rfl, by rw [List.take_zero, List.flatMap_nil, List.append_nil]; exact how1, h⟩
end Go.Proofs.P17
namespace Go.Proofs.P17
set_option linter.all false
open Go Go.Am

/-- Sorted pairs in form: they are what they have. -/
def FormS (l : List (Int × Int)) : Prop := (l.Pairwise fun a b => leP a b = true ∧ a ≠ b) ∧ ∀ p ∈ l, 0 ≤ p.1 ∧ p.1 < p.2
theorem ofP_formS {ps : List (Int × Int)} : FormS (ofP ps) := ⟨ofP_sorted.1, fun p hp => ord_goods p ((ofP_sorted.2 p).1 hp)⟩
theorem wio_formS {ps : List (Int × Int)} {zs : List Int} : FormS (wioL ps zs) := ⟨ofP_sorted.1.sublist List.filter_sublist, fun p hp => ofP_formS.2 p (List.mem_filter.1 hp).1⟩
theorem FormS.mem {l : List (Int × Int)} (h : FormS l) {p : Int × Int} : p ∈ l ↔ 0 ≤ p.1 ∧ p.1 < p.2 ∧ hasR l p.1 p.2 = true := by
  rw [hasR_iff]
  constructor
  · intro hp
    have := h.2 p hp
    exact ⟨this.1, this.2, this.1, by omega, by omega, .inl hp⟩
  · rintro ⟨h1, h2, _, _, _, h3 | h3⟩
    · exact h3
    · have := (h.2 _ h3).2
      exact absurd this (by show ¬ p.2 < p.1; omega)
theorem sorted_ext {α : Type} {r : α → α → Prop} (ir : ∀ a, ¬ r a a) (asy : ∀ a b, r a b → r b a → False) : ∀ {l1 l2 : List α}, l1.Pairwise r → l2.Pairwise r → (∀ x, x ∈ l1 ↔ x ∈ l2) → l1 = l2
  | [], [], _, _, _ => rfl
  | [], y :: l2, _, _, h => absurd ((h y).2 List.mem_cons_self) (by simp)
  | x :: l1, [], _, _, h => absurd ((h x).1 List.mem_cons_self) (by simp)
  | x :: l1, y :: l2, h1, h2, h => by
    rw [List.pairwise_cons] at h1 h2
    have hxy : x = y := by
      rcases List.mem_cons.1 ((h x).1 List.mem_cons_self) with e | e
      · exact e
      · rcases List.mem_cons.1 ((h y).2 List.mem_cons_self) with e' | e'
        · exact e'.symm
        · exact (asy _ _ (h1.1 y e') (h2.1 x e)).elim
    subst hxy
    refine congrArg _ (sorted_ext ir asy h1.2 h2.2 fun z => ?_)
    constructor
    · intro hz
      rcases List.mem_cons.1 ((h z).1 (List.mem_cons_of_mem _ hz)) with e | e
      · subst e; exact (ir _ (h1.1 _ hz)).elim
      · exact e
    · intro hz
      rcases List.mem_cons.1 ((h z).2 (List.mem_cons_of_mem _ hz)) with e | e
      · subst e; exact (ir _ (h2.1 _ hz)).elim
      · exact e
theorem form_ext {l1 l2 : List (Int × Int)} (h1 : FormS l1) (h2 : FormS l2) (h : ∀ a b, hasR l1 a b = hasR l2 a b) : l1 = l2 := by
  refine sorted_ext (r := fun a b => leP a b = true ∧ a ≠ b) (fun a h => h.2 rfl) (fun a b h h' => h.2 (leP_anti h.1 h'.1)) h1.1 h2.1 fun x => ?_
  rw [h1.mem, h2.mem, h]
theorem ofP_ext {ps qs : List (Int × Int)} (h : ∀ a b, hasR ps a b = hasR qs a b) : ofP ps = ofP qs := form_ext ofP_formS ofP_formS fun a b => by rw [hasR_ofP, hasR_ofP, h]

theorem gr_swap {ps qs : List (Int × Int)} : ofP (qs ++ ps) = ofP (ps ++ qs) := ofP_ext fun a b => by rw [hasR_app, hasR_app, Bool.or_comm]
theorem gr_again {ps qs : List (Int × Int)} : ofP (ofP (ps ++ qs) ++ ps) = ofP (ps ++ qs) := ofP_ext fun a b => by
  rw [hasR_app, hasR_ofP, hasR_app]; cases hasR ps a b <;> simp
theorem gr_close {ps qs : List (Int × Int)} : ofP (ofP (ps ++ qs) ++ qs) = ofP (ps ++ qs) := ofP_ext fun a b => by
  rw [hasR_app, hasR_ofP, hasR_app]; cases hasR qs a b <;> simp
theorem gr_of {ps : List (Int × Int)} : ofP (ofP ps) = ofP ps := ofP_ext fun a b => hasR_ofP
theorem gr_nil {ps : List (Int × Int)} : ofP (ofP ps ++ []) = ofP ps := by rw [List.append_nil]; exact gr_of
theorem gr_wio {ps : List (Int × Int)} {zs : List Int} : wioL ps zs = wioL (ofP (ps ++ cloL zs)) zs := form_ext wio_formS wio_formS fun a b => by
  rw [hasR_wio, hasR_wio, hasR_ofP, hasR_app, hasR_clo]
  cases hasR ps a b <;> cases inR zs a <;> cases inR zs b <;> simp

theorem rel_mem {ps : List (Int × Int)} {zs : List Int} {z : Int} : z ∈ relL ps zs ↔ relR ps zs z = true ∧ 0 ≤ z := by
  rw [← rel_in, inR_iff]
  exact ⟨fun h => ⟨⟨h, (plc_mem.1 h).2⟩, (plc_mem.1 h).2⟩, fun h => h.1.1⟩
theorem gr_pairs {ps qs : List (Int × Int)} {zs : List Int} {z : Int} (h : z ∈ relL ps zs) : inR (relL (ofP (ps ++ qs)) zs) z = true := by
  rw [rel_in]
  have h1 := (rel_mem.1 h).1
  unfold relR at h1 ⊢
  rw [Bool.or_eq_true] at h1 ⊢
  refine h1.imp id fun h1 => ?_
  obtain ⟨y, h2, h3⟩ := List.any_eq_true.1 h1
  exact List.any_eq_true.2 ⟨y, h2, by rw [hasR_ofP, hasR_app, h3]; rfl⟩
theorem gr_places {ps : List (Int × Int)} {zs ms : List Int} {z : Int} (h : z ∈ relL ps zs) : inR (relL ps (zs ++ ms)) z = true := by
  rw [rel_in]
  have h1 := (rel_mem.1 h).1
  unfold relR at h1 ⊢
  rw [Bool.or_eq_true] at h1 ⊢
  refine h1.imp (fun h1 => ?_) fun h1 => ?_
  · rw [inR_iff] at h1 ⊢; exact ⟨List.mem_append_left _ h1.1, h1.2⟩
  · rw [List.any_append, h1]; rfl
theorem gr_near {ps : List (Int × Int)} {zs : List Int} {y z : Int} (hy : y ∈ plcL zs) (hz : z ∈ plcL zs) : inR (relL (ofP (ps ++ cloL zs)) [y]) z = true := by
  obtain ⟨y1, y2⟩ := plc_mem.1 hy
  obtain ⟨z1, z2⟩ := plc_mem.1 hz
  rw [rel_in]
  unfold relR
  by_cases e : y = z
  · subst e
    rw [inR_iff.2 ⟨List.mem_singleton.2 rfl, y2⟩]; rfl
  · rw [List.any_cons, hasR_ofP, hasR_app, hasR_clo, inR_iff.2 ⟨y1, y2⟩, inR_iff.2 ⟨z1, z2⟩, decide_eq_true e]
    simp
theorem gr_alone {ps : List (Int × Int)} {zs : List Int} {y : Int} (hy : y ∈ plcL zs) : (relL (wioL ps zs) [y]).length = 1 := by
  obtain ⟨y1, y2⟩ := plc_mem.1 hy
  have hm : ∀ z, z ∈ relL (wioL ps zs) [y] ↔ z ∈ [y] := fun z => by
    rw [rel_mem, List.mem_singleton]
    unfold relR
    rw [Bool.or_eq_true, inR_iff, List.any_cons, hasR_wio, inR_iff.2 ⟨y1, y2⟩]
    simp only [List.mem_singleton, List.any_nil, Bool.not_true, Bool.and_false, Bool.false_and, Bool.or_false, Bool.false_eq_true, or_false]
    constructor
    · exact fun h => h.1.1
    · rintro rfl; exact ⟨⟨rfl, y2⟩, y2⟩
  have : relL (wioL ps zs) [y] = [y] := sorted_ext (r := fun a b : Int => a < b) (fun a => Int.lt_irrefl a) (fun a b h h' => by omega) sort_up.1 (by simp) hm
  rw [this]
  rfl
end Go.Proofs.P17
