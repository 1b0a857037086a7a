/- The walk through the text of a function; texts are alike just where functions are. -/
import Derived.Test.YtdddcofggemnkaaDoorP16W8
namespace Go.Proofs.P16
set_option linter.all false
open Go Go.Am Go.Bdd
attribute [local irreducible] loadK storeK newK boxK tipK makeMapK buildTK buildK buildSliceK nilK binK unK condK convK eqvK pickK gK gDK vK extractK fieldK lookupK mapUpdateK appendK min2K max2K retK makeSliceK freezeK bytesK loopV blkK stayK sameK rangeK callK aFieldAddr aIndexAddr aIndexAddrA aLen aIndex aSlice

abbrev bS (l : List UInt8) : AV := .str ⟨l.toArray⟩
theorem loop_bytes (l : List UInt8) : ∀ (n i : Nat) (r : List UInt8), l.length - i = n → ByteArray.toList.loop ⟨l.toArray⟩ i r = r.reverse ++ l.drop i := by
  intro n
  induction n with
  | zero =>
    intro i r h
    rw [ByteArray.toList.loop, if_neg (by simp [ByteArray.size]; omega), List.drop_of_length_le (by omega), List.append_nil]
  | succ n ih =>
    intro i r h
    have hi : i < l.length := by omega
    rw [ByteArray.toList.loop, if_pos (by simpa [ByteArray.size] using hi), ih (i + 1) _ (by omega), List.drop_eq_getElem_cons hi]
    simp [ByteArray.get!, hi]
theorem toList_bytes (l : List UInt8) : (⟨l.toArray⟩ : ByteArray).toList = l := by
  rw [ByteArray.toList, loop_bytes l _ 0 [] rfl]
  rfl
theorem app_bytes (a b : List UInt8) : (⟨a.toArray⟩ : ByteArray) ++ ⟨b.toArray⟩ = ⟨(a ++ b).toArray⟩ := by
  apply ByteArray.ext
  rw [ByteArray.data_append]
  simp

section
variable {m : Mem} {P : AV → Mem → Prop}
theorem _root_.Go.Am.Tells.addS {a b : List UInt8} (h : a.length + b.length ≤ 140737488355328) {k : AV → Rho} (hk : Tells (k (bS (a ++ b))) P) : Tells (binK .add (bS a) (bS b) k) P := by
  refine Tells.of_eq ?_ hk
  have h1 : (⟨a.toArray⟩ : ByteArray).size + (⟨b.toArray⟩ : ByteArray).size ≤ 140737488355328 := by simpa [ByteArray.size] using h
  simp only [binK, aBin, aStr, if_pos h1, app_bytes]
theorem _root_.Go.Am.Tells.eqS {a b : List UInt8} {k : AV → Rho} (hk : Tells (k (.bool (decide (a = b)))) P) : Tells (binK .eql (bS a) (bS b) k) P := by
  refine Tells.of_eq ?_ hk
  have h1 : (a == b) = decide (a = b) := by rw [Bool.eq_iff_iff]; simp
  simp only [binK, aBin, aStr, toList_bytes, h1]
end

/-- A numeral. -/
abbrev dec (n : Nat) : List UInt8 := Lib.decDigits n
theorem dec_ok : ∀ n, n < 100 → (dec n).length ≤ 2 ∧ 0 < (dec n).length ∧ ∀ c ∈ dec n, 48 ≤ c.toNat ∧ c.toNat ≤ 57 := by
  intro n hn
  by_cases h : n < 10
  · rw [dec, Lib.decDigits_one h]
    refine ⟨by simp, by simp, fun c hc => ?_⟩
    rw [List.mem_singleton.1 hc, UInt8.toNat_ofNat']
    omega
  · rw [dec, Lib.decDigits_two h hn]
    refine ⟨by simp, by simp, fun c hc => ?_⟩
    rcases List.mem_cons.1 hc with rfl | hc
    · rw [UInt8.toNat_ofNat']; omega
    · rw [List.mem_singleton.1 hc, UInt8.toNat_ofNat']; omega
theorem dec_inj {a b : Nat} (ha : a < 100) (hb : b < 100) (h : dec a = dec b) : a = b := by
  have e : ∀ {x y : Nat}, x < 256 → y < 256 → UInt8.ofNat x = UInt8.ofNat y → x = y := fun hx hy h => by
    have := congrArg UInt8.toNat h
    rw [UInt8.toNat_ofNat', UInt8.toNat_ofNat'] at this
    omega
  by_cases h1 : a < 10 <;> by_cases h2 : b < 10
  · rw [dec, dec, Lib.decDigits_one h1, Lib.decDigits_one h2] at h
    have := e (by omega) (by omega) (List.cons.inj h).1
    omega
  · rw [dec, dec, Lib.decDigits_one h1, Lib.decDigits_two h2 hb] at h
    simp at h
  · rw [dec, dec, Lib.decDigits_two h1 ha, Lib.decDigits_one h2] at h
    simp at h
  · rw [dec, dec, Lib.decDigits_two h1 ha, Lib.decDigits_two h2 hb] at h
    obtain ⟨p1, p2⟩ := List.cons.inj h
    have q1 := e (by omega) (by omega) p1
    have q2 := e (by omega) (by omega) (List.cons.inj p2).1
    omega

def txt1 (n : Nd) : List UInt8 := dec n.v ++ [58] ++ dec n.lo ++ [58] ++ dec n.hi ++ [59]
def txtL (l : List Nd) : List UInt8 := l.flatMap txt1
def txtF (f : BF) : List UInt8 := if f.nodes = [] then (if f.one then [116, 114, 117, 101] else [102, 97, 108, 115, 101]) else txtL f.nodes
/-- Small numbers alone. -/
def SmN (n : Nd) : Prop := n.v < 100 ∧ n.lo < 100 ∧ n.hi < 100

theorem cut_at {s : UInt8} : ∀ {a b x y : List UInt8}, s ∉ a → s ∉ b → a ++ s :: x = b ++ s :: y → a = b ∧ x = y
  | [], [], x, y, _, _, h => ⟨rfl, (List.cons.inj h).2⟩
  | [], c :: b, x, y, _, hb, h => absurd ((List.cons.inj h).1 ▸ List.mem_cons_self) hb
  | c :: a, [], x, y, ha, _, h => absurd ((List.cons.inj h).1 ▸ List.mem_cons_self) ha
  | c :: a, d :: b, x, y, ha, hb, h => by
    obtain ⟨h1, h2⟩ := List.cons.inj h
    obtain ⟨h3, h4⟩ := cut_at (fun e => ha (List.mem_cons_of_mem _ e)) (fun e => hb (List.mem_cons_of_mem _ e)) h2
    exact ⟨by rw [h1, h3], h4⟩
theorem no_sep {n : Nat} (hn : n < 100) : (58 : UInt8) ∉ dec n ∧ (59 : UInt8) ∉ dec n := by
  have := (dec_ok n hn).2.2
  constructor
  · intro h
    have h1 := (this _ h).2
    exact absurd h1 (by decide)
  · intro h
    have h1 := (this _ h).2
    exact absurd h1 (by decide)
theorem txt1_inj {n k : Nd} (hn : SmN n) (hk : SmN k) {x y : List UInt8} (h : txt1 n ++ x = txt1 k ++ y) : n = k ∧ x = y := by
  have e : ∀ (n : Nd) (x : List UInt8), txt1 n ++ x = dec n.v ++ 58 :: (dec n.lo ++ 58 :: (dec n.hi ++ 59 :: x)) := fun n x => by simp [txt1]
  rw [e, e] at h
  obtain ⟨h1, h2⟩ := cut_at (no_sep hn.1).1 (no_sep hk.1).1 h
  obtain ⟨h3, h4⟩ := cut_at (no_sep hn.2.1).1 (no_sep hk.2.1).1 h2
  obtain ⟨h5, h6⟩ := cut_at (no_sep hn.2.2).2 (no_sep hk.2.2).2 h4
  refine ⟨?_, h6⟩
  have a1 := dec_inj hn.1 hk.1 h1
  have a2 := dec_inj hn.2.1 hk.2.1 h3
  have a3 := dec_inj hn.2.2 hk.2.2 h5
  cases n; cases k; simp_all
theorem txt1_pos {n : Nd} : 0 < (txt1 n).length := by simp only [txt1, List.length_append, List.length_cons, List.length_nil]; omega
theorem txtL_inj : ∀ {l l' : List Nd}, (∀ n ∈ l, SmN n) → (∀ n ∈ l', SmN n) → txtL l = txtL l' → l = l'
  | [], [], _, _, _ => rfl
  | [], k :: l', _, _, h => by
    have := congrArg List.length h
    have h2 := txt1_pos (n := k)
    simp only [txtL, List.flatMap_nil, List.flatMap_cons, List.length_nil, List.length_append] at this
    omega
  | n :: l, [], _, _, h => by
    have := congrArg List.length h
    have h2 := txt1_pos (n := n)
    simp only [txtL, List.flatMap_nil, List.flatMap_cons, List.length_nil, List.length_append] at this
    omega
  | n :: l, k :: l', h1, h2, h => by
    simp only [txtL, List.flatMap_cons] at h
    obtain ⟨h3, h4⟩ := txt1_inj (h1 n List.mem_cons_self) (h2 k List.mem_cons_self) h
    rw [h3, txtL_inj (fun n hn => h1 n (List.mem_cons_of_mem _ hn)) (fun n hn => h2 n (List.mem_cons_of_mem _ hn)) h4]
theorem gd_small {f : BF} (hf : Gd 6 f) : f.nodes.length ≤ 63 ∧ ∀ n ∈ f.nodes, SmN n := by
  by_cases hne : f.nodes = []
  · rw [hne]; exact ⟨by simp, fun n hn => by cases hn⟩
  · obtain ⟨fc, _⟩ := hf.facts hne
    have hc : f.nodes.length ≤ 63 := fc.cap
    refine ⟨hc, fun n hn => ?_⟩
    obtain ⟨j, hj⟩ := List.getElem?_of_mem hn
    have hjl := (List.getElem?_eq_some_iff.1 hj).1
    have hfit := fc.tb.wf.get hj
    have htl : (f.nodes.take j).length = j := by rw [List.length_take]; omega
    have flo := hfit.lo
    have fhi := hfit.hi
    rw [htl] at flo fhi
    have hn6 := fc.tb.low n hn
    exact ⟨by omega, by omega, by omega⟩
theorem txtF_inj {f g : BF} (hf : Gd 6 f) (hg : Gd 6 g) : decide (txtF f = txtF g) = decide (f = g) := by
  rw [decide_eq_decide]
  constructor
  · intro h
    unfold txtF at h
    have head : ∀ {h : BF}, Gd 6 h → h.nodes ≠ [] → ∀ b : Bool, txtL h.nodes ≠ (if b then [116, 114, 117, 101] else [102, 97, 108, 115, 101]) := fun {h} hh hne b e => by
      obtain ⟨n, l, hl⟩ := List.exists_cons_of_ne_nil hne
      have hs := (gd_small hh).2 n (by rw [hl]; exact List.mem_cons_self)
      obtain ⟨_, d2, d3⟩ := dec_ok n.v hs.1
      obtain ⟨c, q, hq⟩ := List.exists_cons_of_ne_nil (List.length_pos_iff.1 d2)
      have hc := (d3 c (by rw [hq]; exact List.mem_cons_self)).2
      rw [hl] at e
      simp only [txtL, List.flatMap_cons, txt1, hq, List.cons_append] at e
      cases b
      · have := (List.cons.inj e).1
        rw [this] at hc
        exact absurd hc (by decide)
      · have := (List.cons.inj e).1
        rw [this] at hc
        exact absurd hc (by decide)
    by_cases h1 : f.nodes = [] <;> by_cases h2 : g.nodes = []
    · rw [if_pos h1, if_pos h2] at h
      have : f.one = g.one := by
        cases hf1 : f.one <;> cases hg1 : g.one <;> simp_all
      cases f; cases g; simp_all
    · rw [if_pos h1, if_neg h2] at h
      exact absurd h.symm (head hg h2 f.one)
    · rw [if_neg h1, if_pos h2] at h
      exact absurd h (head hf h1 g.one)
    · rw [if_neg h1, if_neg h2] at h
      have hn := txtL_inj (gd_small hf).2 (gd_small hg).2 h
      have o1 := (hf.facts h1).1.one
      have o2 := (hg.facts h2).1.one
      cases f; cases g; simp_all
  · rintro rfl; rfl

theorem call33 {m : Mem} {fr : Heap} {n : Nat} (hn : n < 100) (hs : Sep m fr) : Tells (Am.Call T 33 [vI n] m) fun x m' => x = bS (dec n) ∧ Sep m' fr := by
  refine Tells.orc (r := (bS (dec n), m)) rfl ?_ ⟨rfl, hs⟩
  show (if 0 ≤ (n : Int) ∧ (n : Int) < 100 then some (AV.str ⟨(Lib.decDigits (n : Int).toNat).toArray⟩, m) else none) = _
  rw [if_pos ⟨by omega, by omega⟩, Int.toNat_natCast]
theorem call48 {m : Mem} {fr : Heap} {b : Bool} (hs : Sep m fr) : Tells (Am.Call T 48 [.bool b] m) fun x m' => x = bS (if b then [116, 114, 117, 101] else [102, 97, 108, 115, 101]) ∧ Sep m' fr := by
  refine Tells.fn 9 rfl F48_ok rfl ?_
  show Tells (S48 (Am.Call T) 9 m (.bool b)) _
  have h : Sep ⟨m.objs, none⟩ fr := hs.objs rfl
  unfold S48 G48
  cases b with
  | true =>
    refine .condtt ?_
    refine .ret1 (by rfl) ?_
    intro m hobj
    exact ⟨rfl, h.objs hobj⟩
  | false =>
    refine .condff ?_
    refine .ret1 (by rfl) ?_
    intro m hobj
    exact ⟨rfl, h.objs hobj⟩
theorem call32 {m : Mem} {fr : Heap} {b : Bool} (hs : Sep m fr) : Tells (Am.Call T 32 [.bool b] m) fun x m' => x = bS (if b then [116, 114, 117, 101] else [102, 97, 108, 115, 101]) ∧ Sep m' fr := by
  refine Tells.fn 9 rfl F32_ok rfl ?_
  show Tells (S32 (Am.Call T) 9 m (.bool b)) _
  have h : Sep ⟨m.objs, none⟩ fr := hs.objs rfl
  unfold S32 G32
  refine Tells.call rfl (call48 h) ?_
  rintro _ m ⟨rfl, h⟩
  refine .ret1 (by rfl) ?_
  intro m hobj
  exact ⟨rfl, h.objs hobj⟩

theorem txtL_len {l : List Nd} (h : ∀ n ∈ l, SmN n) : (txtL l).length ≤ l.length * 9 := by
  induction l with
  | nil => exact Nat.le_refl _
  | cons n l ih =>
    have hn := h n List.mem_cons_self
    have h1 := (dec_ok n.v hn.1).1
    have h2 := (dec_ok n.lo hn.2.1).1
    have h3 := (dec_ok n.hi hn.2.2).1
    have h4 := ih fun k hk => h k (List.mem_cons_of_mem _ hk)
    simp only [txtL, List.flatMap_cons, List.length_append, txt1, List.length_cons, List.length_nil] at h4 ⊢
    omega

set_option maxHeartbeats 4000000 in
theorem call10 {m : Mem} {fr : Heap} {v : AV} {f : BF} (hv : IsFn v f) (hf : Gd 6 f) (hs : Sep m fr) :
    Tells (Am.Call T 10 [v] m) fun x m' => x = bS (txtF f) ∧ Sep m' fr := by
  obtain ⟨k, rfl, hk⟩ := hv
  obtain ⟨hn63, hsm⟩ := gd_small hf
  refine Tells.fn 300 rfl F10_ok rfl ?_
  show Tells (S10 (Am.Call T) _ m (.agg [.list .shared k (f.nodes.map encNd), .bool f.one])) _
  have h : Sep ⟨m.objs, none⟩ fr := hs.objs rfl
  have hlen : (f.nodes.map encNd).length = f.nodes.length := List.length_map _
  unfold S10 G10
  by_cases hne : f.nodes = []
  · have h0 : f.nodes.length = 0 := by rw [hne]; rfl
    refine .boxA ‹_› ?_
    intro nw m h
    refine .fieldAddr ?_
    refine .load1 ‹_› .z (by rfl) ?_
    refine .lenL ?_
    refine .eql ?_
    refine .condT (by first | assumption | omega) ?_
    refine .fieldAddr ?_
    refine .load1 ‹_› .z (by rfl) ?_
    refine Tells.call rfl (call32 h) ?_
    rintro _ m ⟨rfl, h⟩
    refine .ret1 (by rfl) ?_
    intro m hobj
    exact ⟨by rw [txtF, if_pos hne], (h.objs hobj).tail⟩
  · have h0 : ¬ f.nodes.length = 0 := fun e => hne (List.eq_nil_of_length_eq_zero e)
    have hk : k = 3 := hk.resolve_right hne
    subst hk
    refine .boxA ‹_› ?_
    intro nw m h
    refine .fieldAddr ?_
    refine .load1 ‹_› .z (by rfl) ?_
    refine .lenL ?_
    refine .eql ?_
    refine .condF (by first | assumption | omega) ?_
    refine .fieldAddr ?_
    refine .load1 ‹_› .z (by rfl) ?_
    refine .lenL ?_
    rw [hlen]
    refine Tells.loop (fun i vs m => ∃ j : Nat, j + i = f.nodes.length ∧ vs = [bS (txtL (f.nodes.take j)), .list .shared 3 (f.nodes.map encNd), vI f.nodes.length, vI j] ∧ Sep m ((nw, .row 0 [.list .shared 3 (f.nodes.map encNd), .bool f.one]) :: fr)) ?_ (i := f.nodes.length) (by omega) ?_
    · rintro i vs m L2 ⟨j, j1, rfl, h⟩ hL
      unfold S10_2 G10_2
      by_cases hj : j < f.nodes.length
      · obtain ⟨n, hn⟩ : ∃ n, f.nodes[j]? = some n := ⟨_, List.getElem?_eq_getElem hj⟩
        have hgn : (f.nodes.map encNd)[j]? = some (encNd n) := by rw [List.getElem?_map, hn]; rfl
        obtain ⟨s1, s2, s3⟩ := hsm n (List.mem_of_getElem? hn)
        have htl := txtL_len (l := f.nodes.take j) fun k hk => hsm k (List.mem_of_mem_take hk)
        rw [List.length_take] at htl
        have d1 := (dec_ok n.v s1).1
        have d2 := (dec_ok n.lo s2).1
        have d3 := (dec_ok n.hi s3).1
        have htk : txtL (f.nodes.take (j + 1)) = txtL (f.nodes.take j) ++ txt1 n := by rw [List.take_add_one, hn]; simp [txtL]
        refine .lss ?_
        refine .condT (by first | assumption | omega) ?_
        refine .indexL (j := j) (by rfl) hgn ?_
        refine .loadCA (by rfl) ?_
        refine .new ‹_› ?_
        intro nw m h
        refine .storeA ‹_› .z (by rfl) (by rfl) ?_
        intro m h
        refine .fieldAddr ?_
        refine .load1 ‹_› .z (by rfl) ?_
        refine Tells.call rfl (call33 s1 h) ?_
        rintro _ m ⟨rfl, h⟩
        refine Tells.addS (b := [58]) (by simp only [List.length_cons, List.length_nil]; omega) ?_
        refine .fieldAddr ?_
        refine .load1 ‹_› .z (by rfl) ?_
        refine Tells.call rfl (call33 s2 h) ?_
        rintro _ m ⟨rfl, h⟩
        refine Tells.addS (by simp only [List.length_append, List.length_cons, List.length_nil]; omega) ?_
        refine Tells.addS (b := [58]) (by simp only [List.length_append, List.length_cons, List.length_nil]; omega) ?_
        refine .fieldAddr ?_
        refine .load1 ‹_› .z (by rfl) ?_
        refine Tells.call rfl (call33 s3 h) ?_
        rintro _ m ⟨rfl, h⟩
        refine Tells.addS (by simp only [List.length_append, List.length_cons, List.length_nil]; omega) ?_
        refine Tells.addS (b := [59]) (by simp only [List.length_append, List.length_cons, List.length_nil]; omega) ?_
        refine Tells.addS (by simp only [List.length_append, List.length_cons, List.length_nil]; omega) ?_
        refine .stay (by first | exact stayK_nil | (repeat first | exact stayK_nil | refine stayK_cons ?_ ?_ | refine stayK_not ?_ | exact stayN_zero | refine stayN_succ (by rfl) (by first | exact Sep.load1 ‹_› (by first | exact .z | exact .s .z | exact .s (.s .z) | exact .s (.s (.s .z)) | exact .s (.s (.s (.s .z))) | exact .s (.s (.s (.s (.s .z)))) | exact .s (.s (.s (.s (.s (.s .z))))) | exact .s (.s (.s (.s (.s (.s (.s .z)))))) | exact .s (.s (.s (.s (.s (.s (.s (.s .z))))))) | exact .s (.s (.s (.s (.s (.s (.s (.s (.s .z)))))))) | exact .s (.s (.s (.s (.s (.s (.s (.s (.s (.s .z))))))))) | exact .s (.s (.s (.s (.s (.s (.s (.s (.s (.s (.s .z)))))))))) | exact .s (.s (.s (.s (.s (.s (.s (.s (.s (.s (.s (.s .z))))))))))) | exact .s (.s (.s (.s (.s (.s (.s (.s (.s (.s (.s (.s (.s .z))))))))))))) (by rfl) | exact Sep.loadA ‹_› (by first | exact .z | exact .s .z | exact .s (.s .z) | exact .s (.s (.s .z)) | exact .s (.s (.s (.s .z))) | exact .s (.s (.s (.s (.s .z)))) | exact .s (.s (.s (.s (.s (.s .z))))) | exact .s (.s (.s (.s (.s (.s (.s .z)))))) | exact .s (.s (.s (.s (.s (.s (.s (.s .z))))))) | exact .s (.s (.s (.s (.s (.s (.s (.s (.s .z)))))))) | exact .s (.s (.s (.s (.s (.s (.s (.s (.s (.s .z))))))))) | exact .s (.s (.s (.s (.s (.s (.s (.s (.s (.s (.s .z)))))))))) | exact .s (.s (.s (.s (.s (.s (.s (.s (.s (.s (.s (.s .z))))))))))) | exact .s (.s (.s (.s (.s (.s (.s (.s (.s (.s (.s (.s (.s .z))))))))))))) (by rfl) | rfl) ?_)) ?_
        refine .add (by rfl) (by omega) ?_
        refine hL (i - 1) _ _ (by omega) ⟨j + 1, by omega, ?_, h.tail⟩
        rw [htk]
        rfl
      · have hje : j = f.nodes.length := by omega
        subst hje
        rw [List.take_length]
        refine .lss ?_
        refine .condF (by first | assumption | omega) ?_
        refine .blk ?_
        refine .ret1 (by rfl) ?_
        intro m hobj
        exact ⟨by rw [txtF, if_neg hne], (h.objs hobj).tail⟩
    · exact ⟨0, by omega, rfl, h⟩
end Go.Proofs.P16
