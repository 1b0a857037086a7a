/- The walk through whether a function is true, its variables being as sets of others. -/
import Derived.Test.YtdddcofggemnkaaDoorP16H1
import Derived.Test.YtdddcofggemnkaaDoorTab
namespace Go.Proofs.P16
set_option linter.all false
open Go Go.Am Go.Bdd
attribute [local irreducible] loadK storeK newK boxK tipK makeMapK buildTK buildK buildSliceK nilK binK unK condK convK eqvK pickK gK gDK vK extractK fieldK lookupK mapUpdateK appendK min2K max2K retK makeSliceK freezeK bytesK loopV blkK stayK sameK rangeK callK aFieldAddr aIndexAddr aIndexAddrA aLen aIndex aSlice

def allS (s : List Int) (ρ : Nat → Bool) : Bool := s.all fun z => semZ z ρ
def cmpS (L : List (List Int)) (ρ : Nat → Bool) : Nat → Bool := fun v => allS ((L[v]?).getD []) ρ
/-- It hangs on sets that are there alone, and is true for each choice. -/
def HoldB (L : List (List Int)) (f : BF) : Prop := (∀ v, Hg f v → v < L.length) ∧ ∀ ρ, f.sem (cmpS L ρ) = true
def IsSets (w : AV) (L : List (List Int)) : Prop := ∃ k els, w = .list .shared k els ∧ (k = 1 ∨ L = []) ∧ els.length = L.length ∧ ∀ (i : Nat) (s : List Int), L[i]? = some s → ∃ x, els[i]? = some x ∧ IsInts x s

set_option maxHeartbeats 8000000 in
theorem call9 {m : Mem} {fr : Heap} {v w : AV} {f : BF} {L : List (List Int)} (hv : IsFn v f) (hf : Gd 6 f) (hw : IsSets w L) (hLl : L.length ≤ 8) (hL6 : ∀ s ∈ L, s.length ≤ 6 ∧ ∀ y ∈ s, y < 6) (hs : Sep m fr) :
    Tells (Am.Call T 9 [v, w] m) fun x m' => (∃ b, x = .bool b ∧ (b = true ↔ HoldB L f)) ∧ Sep m' fr := by
  obtain ⟨k, rfl, hk⟩ := hv
  obtain ⟨k2, els, rfl, hk2, hel, hels⟩ := hw
  have hnl := hf.len
  refine Tells.fn 300 rfl F9_ok rfl ?_
  show Tells (S9 (Am.Call T) _ m (.agg [.list .shared k (f.nodes.map encNd), .bool f.one]) (.list .shared k2 els)) _
  have h : Sep ⟨m.objs, none⟩ fr := hs.objs rfl
  have hlen : (f.nodes.map encNd).length = f.nodes.length := List.length_map _
  have hcap : ∀ t, cap 6 t ≤ 64 := fun t => cap_le
  unfold S9 G9
  refine .boxA ‹_› ?_
  intro nw m h
  generalize nw = fb at *
  refine Tells.call rfl (call26 h) ?_
  rintro _ m2 ⟨p, t, mm, rfl, h⟩
  refine .bs2 ?_
  refine .fieldAddr ?_
  refine .load1 ‹_› (.s (.s (.s .z))) (by rfl) ?_
  refine .lenL ?_
  rw [hlen]
  refine Tells.loop (fun i vs m => ∃ (j : Nat) (ns : List Nd) (pl : List Nat) (g : Tag) (H' : Heap), j + i = f.nodes.length ∧ Tb 6 ns ∧ ns.length ≤ j * 8192 ∧ pl.length = j + 2 ∧
    (∀ x, x < j + 2 → ∃ y, pl[x]? = some y ∧ y < ns.length + 2 ∧ ∀ ρ, sem ns y ρ = sem (f.nodes.take j) x (cmpS L ρ)) ∧ OwnT g H' (pl.map vI).length ∧ (∀ n ∈ f.nodes.take j, n.v < L.length) ∧
    vs = [.list .shared k2 els, .ptr fb 0 0, .ptr p 0 0, .list g 1 (pl.map vI), .list .shared k (f.nodes.map encNd), vI f.nodes.length, vI j] ∧
    Sep m (tab p t mm ns ((fb, .row 0 [.list .shared k (f.nodes.map encNd), .bool f.one]) :: (H' ++ fr)))) ?_ (i := f.nodes.length) (by omega) ?_
  · rintro i vs m L3 ⟨j, ns, pl, g, H', j1, j2, j3, j4, j5, j6, j7, rfl, h⟩ hL3
    have hlm : (pl.map vI).length = pl.length := List.length_map _
    unfold S9_7 G9_7
    by_cases hj : j < f.nodes.length
    · have hne : f.nodes ≠ [] := fun e => by rw [e] at hj; simp at hj
      have hk : k = 3 := hk.resolve_right hne
      subst hk
      obtain ⟨fc, _⟩ := hf.facts hne
      obtain ⟨n, hn⟩ : ∃ n, f.nodes[j]? = some n := ⟨_, List.getElem?_eq_getElem hj⟩
      have hmem : n ∈ f.nodes := List.mem_of_getElem? hn
      have hfit := fc.tb.wf.get hn
      have htl : (f.nodes.take j).length = j := by rw [List.length_take]; omega
      have flo := hfit.lo
      have fhi := hfit.hi
      rw [htl] at flo fhi
      have hgn : (f.nodes.map encNd)[j]? = some (encNd n) := by rw [List.getElem?_map, hn]; rfl
      by_cases hvl : n.v < L.length
      · obtain ⟨s, hsv⟩ : ∃ s, L[n.v]? = some s := ⟨_, List.getElem?_eq_getElem hvl⟩
        obtain ⟨x, hx, ks, rfl, hks⟩ := hels _ _ hsv
        obtain ⟨hs6, hs5⟩ := hL6 s (List.mem_of_getElem? hsv)
        have hk2 : k2 = 1 := hk2.resolve_right (by intro e; rw [e] at hvl; simp at hvl)
        subst hk2
        have hls : (s.map vZ).length = s.length := List.length_map _
        obtain ⟨xl, l1, l2, l3⟩ := j5 n.lo flo
        obtain ⟨xh, h1, h2, h3⟩ := j5 n.hi fhi
        have hgl : (pl.map vI)[n.lo]? = some (vI xl) := by rw [List.getElem?_map, l1]; rfl
        have hgh : (pl.map vI)[n.hi]? = some (vI xh) := by rw [List.getElem?_map, h1]; rfl
        have hnv : ¬ (els.length : Int) ≤ n.v := by omega
        refine .lss ?_
        refine .condT (by first | assumption | omega) ?_
        refine .indexL (j := j) (by rfl) hgn ?_
        refine .loadCA (by rfl) ?_
        refine .new ‹_› ?_
        intro nw m h
        refine .storeA ‹_› .z (by rfl) (by rfl) ?_
        intro m h
        refine .fieldAddr ?_
        refine .load1 ‹_› .z (by rfl) ?_
        refine .lenL ?_
        refine .geq ?_
        refine .condF (by first | assumption | omega) ?_
        refine .fieldAddr ?_
        refine .load1 ‹_› .z (by rfl) ?_
        refine .indexL (j := n.v) (by rfl) hx ?_
        refine .loadC1 (by rfl) ?_
        refine .lenL ?_
        rw [hls]
        have h := h.mvs [0, 3, 3, 3]
        refine Tells.loop (fun i vs m => ∃ (q a : Nat) (ns' : List Nd), q + i = s.length ∧ ns <+: ns' ∧ Tb 6 ns' ∧ ns'.length ≤ ns.length + q * 512 ∧ a < ns'.length + 2 ∧ (∀ ρ, sem ns' a ρ = allS (s.take q) ρ) ∧
          vs = [.list .shared 1 els, .ptr fb 0 0, .ptr p 0 0, .list g 1 (pl.map vI), .ptr nw 0 0, vI a, .list .shared 3 (f.nodes.map encNd), vI f.nodes.length, vI j, .list .shared ks (s.map vZ), vI s.length, vI q] ∧
          Sep m (tab p t mm ns' ((nw, .row 0 [vI n.v, vI n.lo, vI n.hi]) :: (fb, .row 0 [.list .shared 3 (f.nodes.map encNd), .bool f.one]) :: (H' ++ fr)))) ?_ (i := s.length) (by omega) ?_
        · rintro i2 vs m L4 ⟨q, a, ns', q1, q2, q3, q4, q5, q6, rfl, h⟩ hL4
          unfold S9_1 G9_1
          by_cases hq : q < s.length
          · obtain ⟨z, hz⟩ : ∃ z, s[q]? = some z := ⟨_, List.getElem?_eq_getElem hq⟩
            have hz6 : z < 6 := hs5 z (List.mem_of_getElem? hz)
            have hgz : (s.map vZ)[q]? = some (vZ z) := by rw [List.getElem?_map, hz]; rfl
            have hks : ks = 1 := hks.resolve_right (by intro e; rw [e] at hq; simp at hq)
            subst hks
            refine .lss ?_
            refine .condT (by first | assumption | omega) ?_
            refine .indexL (j := q) (by rfl) hgz ?_
            refine .loadC1 (by rfl) ?_
            refine Tells.call rfl (call14 h) ?_
            rintro _ _ ⟨⟨k3, rfl, hk3⟩, h⟩
            refine Tells.call rfl (call28 (K := 6) (ns := ns') ⟨k3, rfl, hk3⟩ (gd_varB (by omega) hz6) q3 (by omega) h) ?_
            rintro _ _ ⟨ns1, r1, rfl, h, d1⟩
            have e1 := d1.cnt
            have e1' := pre_len d1.pre
            have w1 := d1.val
            have c1 := hcap (min (top ns1 a) (top ns1 r1))
            refine Tells.call rfl (call27 andOk and_fn d1.tb (by omega) w1 (by omega) h) ?_
            rintro _ _ ⟨ns2, r2, rfl, h, d2⟩
            have e2 := d2.cnt
            have e2' := pre_len d2.pre
            have w2 := d2.val
            refine .add (by rfl) (by omega) ?_
            refine hL4 (i2 - 1) _ _ (by omega) ⟨q + 1, r2, ns2, by omega, q2.trans (d1.pre.trans d2.pre), d2.tb, by omega, w2, fun ρ => ?_, rfl, h⟩
            rw [d2.sem]
            show (sem ns1 a ρ && sem ns1 r1 ρ) = _
            rw [sem_pre d1.pre (by omega), q6, d1.sem, sem_varB, List.take_add_one, hz]
            simp [allS]
          · have hqe : q = s.length := by omega
            subst hqe
            rw [List.take_length] at q6
            have p1 := pre_len q2
            have c1 := hcap (min (top ns' a) (top ns' xh))
            refine .lss ?_
            refine .condF (by first | assumption | omega) ?_
            refine .blk ?_
            refine .fieldAddr ?_
            refine .load1 ‹_› (.s (.s (.s .z))) (by rfl) ?_
            refine .indexL (j := n.hi) (by rfl) hgh ?_
            refine .loadC1 (by rfl) ?_
            refine Tells.call rfl (call27 andOk and_fn q3 q5 (by omega) (by omega) h) ?_
            rintro _ _ ⟨ns2, r2, rfl, h, d2⟩
            have e2 := d2.cnt
            have e2' := pre_len d2.pre
            have w2 := d2.val
            obtain ⟨ns3, r3, o3, d3⟩ := opp_spec (K := 6) (a + 1) (Nat.lt_succ_self a) d2.tb (by omega)
            have c2 := hcap (top ns2 a)
            have e3 := d3.cnt
            have e3' := pre_len d3.pre
            have w3 := d3.val
            skip
            refine Tells.call rfl (call30 (K := 6) (by omega) (a + 1) o3 (Nat.lt_succ_self a) d2.tb (by omega) (by omega) h) ?_
            rintro _ _ ⟨rfl, h⟩
            have c3 := hcap (min (top ns3 r3) (top ns3 xl))
            refine .fieldAddr ?_
            refine .load1 ‹_› (.s (.s (.s .z))) (by rfl) ?_
            refine .indexL (j := n.lo) (by rfl) hgl ?_
            refine .loadC1 (by rfl) ?_
            refine Tells.call rfl (call27 andOk and_fn d3.tb w3 (by omega) (by omega) h) ?_
            rintro _ _ ⟨ns4, r4, rfl, h, d4⟩
            have e4 := d4.cnt
            have e4' := pre_len d4.pre
            have w4 := d4.val
            have c4 := hcap (min (top ns4 r2) (top ns4 r4))
            refine .stay (by first | exact stayK_nil | (repeat first | exact stayK_nil | refine stayK_cons ?_ ?_ | refine stayK_not ?_ | exact stayN_zero | refine stayN_succ (by rfl) (by first | exact Sep.load1 ‹_› (by first | exact .z | exact .s .z | exact .s (.s .z) | exact .s (.s (.s .z)) | exact .s (.s (.s (.s .z))) | exact .s (.s (.s (.s (.s .z)))) | exact .s (.s (.s (.s (.s (.s .z))))) | exact .s (.s (.s (.s (.s (.s (.s .z)))))) | exact .s (.s (.s (.s (.s (.s (.s (.s .z))))))) | exact .s (.s (.s (.s (.s (.s (.s (.s (.s .z)))))))) | exact .s (.s (.s (.s (.s (.s (.s (.s (.s (.s .z))))))))) | exact .s (.s (.s (.s (.s (.s (.s (.s (.s (.s (.s .z)))))))))) | exact .s (.s (.s (.s (.s (.s (.s (.s (.s (.s (.s (.s .z))))))))))) | exact .s (.s (.s (.s (.s (.s (.s (.s (.s (.s (.s (.s (.s .z))))))))))))) (by rfl) | exact Sep.loadA ‹_› (by first | exact .z | exact .s .z | exact .s (.s .z) | exact .s (.s (.s .z)) | exact .s (.s (.s (.s .z))) | exact .s (.s (.s (.s (.s .z)))) | exact .s (.s (.s (.s (.s (.s .z))))) | exact .s (.s (.s (.s (.s (.s (.s .z)))))) | exact .s (.s (.s (.s (.s (.s (.s (.s .z))))))) | exact .s (.s (.s (.s (.s (.s (.s (.s (.s .z)))))))) | exact .s (.s (.s (.s (.s (.s (.s (.s (.s (.s .z))))))))) | exact .s (.s (.s (.s (.s (.s (.s (.s (.s (.s (.s .z)))))))))) | exact .s (.s (.s (.s (.s (.s (.s (.s (.s (.s (.s (.s .z))))))))))) | exact .s (.s (.s (.s (.s (.s (.s (.s (.s (.s (.s (.s (.s .z))))))))))))) (by rfl) | rfl) ?_)) ?_
            refine Tells.call rfl (call27 orOk or_fn d4.tb (by omega) w4 (by omega) h) ?_
            rintro _ _ ⟨ns5, r5, rfl, h, d5⟩
            have e5 := d5.cnt
            have e5' := pre_len d5.pre
            have w5 := d5.val
            refine .bs1 ?_
            have hp2 := Am.Sep.hfront (l1 := [_, _, _, _, _]) h
            refine Tells.appendO j6 hp2 (.inl rfl) (by rw [hlm]; simp only [room]; omega) (by decide) (by rfl) (by rfl) ?_
            intro g' H2 m6 j6' hp3
            have hp4 := Am.Sep.hfront (l1 := H2) hp3
            refine .add (by rfl) (by omega) ?_
            have hpl : pl.map vI ++ [vI r5] = (pl ++ [r5]).map vI := by simp
            rw [hpl]
            refine hL3 (i - 1) _ _ (by omega) ⟨j + 1, ns5, pl ++ [r5], g', H2, by omega, d5.tb, by rw [Nat.succ_mul]; omega, by simp [j4], ?_, by simpa using j6', ?_, rfl, ?_⟩
            · intro x hx
              rw [List.take_add_one, hn]
              show ∃ y, _ ∧ _ ∧ ∀ ρ, _ = sem (f.nodes.take j ++ [n]) x _
              by_cases hxl : x < j + 2
              · obtain ⟨z, z1, z2, z3⟩ := j5 x hxl
                refine ⟨z, by rw [List.getElem?_append_left (by omega)]; exact z1, by omega, fun ρ => ?_⟩
                rw [sem_app (by rw [htl]; omega), ← z3, sem_pre d5.pre (by omega), sem_pre d4.pre (by omega), sem_pre d3.pre (by omega), sem_pre d2.pre (by omega), sem_pre q2 (by omega)]
              · have hxe : x = (f.nodes.take j).length + 2 := by omega
                refine ⟨r5, by rw [List.getElem?_append_right (by omega), show x - pl.length = 0 by omega]; rfl, w5, fun ρ => ?_⟩
                rw [hxe, sem_snoc, d5.sem]
                show (sem ns4 r2 ρ || sem ns4 r4 ρ) = _
                rw [sem_pre d4.pre (by omega), sem_pre d3.pre (by omega), d2.sem, d4.sem]
                show ((sem ns' a ρ && sem ns' xh ρ) || (sem ns3 r3 ρ && sem ns3 xl ρ)) = _
                rw [d3.sem]
                show (_ || ((!sem ns2 a ρ) && _)) = _
                rw [sem_pre d3.pre (by omega), sem_pre d2.pre (by omega), sem_pre d2.pre (by omega), q6, sem_pre q2 (by omega), sem_pre q2 (by omega), h3, l3]
                have hcm : cmpS L ρ n.v = allS s ρ := by rw [cmpS, hsv]; rfl
                rw [hcm]
                cases allS s ρ <;> simp
            · rw [List.take_add_one, hn]
              intro k hk
              rcases List.mem_append.1 hk with e | e
              · exact j7 k e
              · rw [List.mem_singleton.1 e]; exact hvl
            · exact (hp4.mvs [4, 3, 3, 3, 4]).tail
        · exact ⟨0, 1, ns, by omega, List.prefix_refl _, j2, by omega, by omega, fun ρ => by rw [sem_one]; rfl, rfl, h⟩
      · have hnv : (els.length : Int) ≤ n.v := by omega
        refine .lss ?_
        refine .condT (by first | assumption | omega) ?_
        refine .indexL (j := j) (by rfl) hgn ?_
        refine .loadCA (by rfl) ?_
        refine .new ‹_› ?_
        intro nw m h
        refine .storeA ‹_› .z (by rfl) (by rfl) ?_
        intro m h
        refine .fieldAddr ?_
        refine .load1 ‹_› .z (by rfl) ?_
        refine .lenL ?_
        refine .geq ?_
        refine .condT (by first | assumption | omega) ?_
        refine .blkR ?_
        refine .ret1 (by rfl) ?_
        intro m hobj
        refine ⟨⟨false, rfl, by simp; exact fun hb => hvl (hb.1 n.v ⟨n, hmem, rfl⟩)⟩, (h.objs hobj).tail.tail.tail.tail.tail.right⟩
    · have hjl : j = f.nodes.length := by omega
      subst hjl
      rw [List.take_length] at j5 j7
      have hhg : ∀ v, Hg f v → v < L.length := fun v ⟨n, h1, h2⟩ => h2 ▸ j7 n h1
      by_cases hne : f.nodes.length = 0
      · have hn0 : f.nodes = [] := List.eq_nil_of_length_eq_zero hne
        refine .lss ?_
        refine .condF (by first | assumption | omega) ?_
        refine .blk ?_
        refine .fieldAddr ?_
        refine .load1 ‹_› (.s (.s (.s .z))) (by rfl) ?_
        refine .lenL ?_
        refine .eql ?_
        refine .condT (by first | assumption | omega) ?_
        refine .fieldAddr ?_
        refine .load1 ‹_› (.s (.s (.s .z))) (by rfl) ?_
        refine .ret1 (by rfl) ?_
        intro m hobj
        refine ⟨⟨f.one, rfl, ?_⟩, (h.objs hobj).tail.tail.tail.tail.right⟩
        unfold HoldB
        simp only [BF.sem, hn0, if_true]
        exact ⟨fun e => ⟨hhg, fun _ => e⟩, fun e => e.2 fun _ => true⟩
      · obtain ⟨y, y1, y2, y3⟩ := j5 (f.nodes.length + 1) (by omega)
        have hgy : (pl.map vI)[f.nodes.length + 1]? = some (vI y) := by rw [List.getElem?_map, y1]; rfl
        refine .lss ?_
        refine .condF (by first | assumption | omega) ?_
        refine .blk ?_
        refine .fieldAddr ?_
        refine .load1 ‹_› (.s (.s (.s .z))) (by rfl) ?_
        refine .lenL ?_
        refine .eql ?_
        refine .condF (by first | assumption | omega) ?_
        refine .lenL ?_
        refine .sub (by rfl) (by omega) ?_
        refine .indexL (j := f.nodes.length + 1) (by omega) hgy ?_
        refine .loadC1 (by rfl) ?_
        refine .eql ?_
        refine .ret1 (by rfl) ?_
        intro m hobj
        refine ⟨⟨_, rfl, ?_⟩, (h.objs hobj).tail.tail.tail.tail.right⟩
        rw [decide_eq_true_eq]
        unfold HoldB
        have hsem : ∀ ρ, f.sem (cmpS L ρ) = sem ns y ρ := fun ρ => by
          rw [y3]
          simp only [BF.sem]
          rw [if_neg (fun e => hne (by rw [e]; rfl))]
        constructor
        · intro e
          have hy : y = 1 := by omega
          exact ⟨hhg, fun ρ => by rw [hsem, hy, sem_one]⟩
        · rintro ⟨_, e⟩
          have : y = 1 := canon j2.wf (ns.length + 2) y 1 (by omega) (by omega) y2 (by omega) fun ρ => by rw [← hsem, e, sem_one]
          rw [this]; rfl
  · refine ⟨0, [], [0, 1], .full, [], by omega, ⟨.nil, fun n hn => by cases hn⟩, by simp, rfl, fun x hx => ?_, .full, by simp, rfl, h⟩
    rcases (show x = 0 ∨ x = 1 by omega) with rfl | rfl
    · exact ⟨0, rfl, by omega, fun ρ => by rw [sem_zero, sem_zero]⟩
    · exact ⟨1, rfl, by omega, fun ρ => by rw [sem_one, sem_one]⟩
end Go.Proofs.P16
