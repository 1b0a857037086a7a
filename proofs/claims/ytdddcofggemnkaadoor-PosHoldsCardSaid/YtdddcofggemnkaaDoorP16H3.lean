/- The walk through the law of what is true: sets that are on, and what is wanted. -/
import Derived.Test.YtdddcofggemnkaaDoorP16H2
import Derived.Test.YtdddcofggemnkaaDoorP16W17
namespace Go.Proofs.P16
set_option linter.all false
open Go Go.Am Go.Bdd
attribute [local irreducible] loadK storeK newK boxK tipK makeMapK buildTK buildK buildSliceK nilK binK unK condK convK eqvK pickK gK gDK vK extractK fieldK lookupK mapUpdateK appendK min2K max2K retK makeSliceK freezeK bytesK loopV blkK stayK sameK rangeK callK aFieldAddr aIndexAddr aIndexAddrA aLen aIndex aSlice

/-- The sets that a choice makes true. -/
def onL (L : List (List Int)) (c : Nat) : Nat → List Int
  | 0 => []
  | n + 1 => onL L c n ++ if allS ((L[n]?).getD []) (chR c) then [(n : Int)] else []
theorem onL_mem {L : List (List Int)} {c : Nat} {v : Nat} : ∀ {n : Nat}, ((v : Int) ∈ onL L c n ↔ v < n ∧ allS ((L[v]?).getD []) (chR c) = true)
  | 0 => by simp [onL]
  | n + 1 => by
    rw [onL, List.mem_append, onL_mem]
    constructor
    · rintro (⟨h1, h2⟩ | h)
      · exact ⟨by omega, h2⟩
      · split at h
        · rename_i ha
          have : v = n := by have := List.mem_singleton.1 h; omega
          subst this
          exact ⟨by omega, ha⟩
        · cases h
    · rintro ⟨h1, h2⟩
      by_cases e : v = n
      · subst e; rw [if_pos h2]; exact .inr (List.mem_singleton.2 rfl)
      · exact .inl ⟨by omega, h2⟩
theorem onL_len {L : List (List Int)} {c : Nat} : ∀ {n : Nat}, (onL L c n).length ≤ n
  | 0 => Nat.le_refl _
  | n + 1 => by
    have := onL_len (L := L) (c := c) (n := n)
    rw [onL, List.length_append]
    split <;> simp <;> omega

theorem want_iff {L : List (List Int)} {f : BF} (hf : Gd 6 f) (hL : ∀ s ∈ L, ∀ y ∈ s, y < 6) (h0 : ∀ v, Hg f v → v < L.length) :
    (∀ c, c < 64 → f.sem (rowR (onL L c L.length)) = true) ↔ ∀ ρ, f.sem (cmpS L ρ) = true := by
  have e1 : ∀ c, f.sem (rowR (onL L c L.length)) = f.sem (cmpS L (chR c)) := fun c => sem_hg hf.toCan fun v hv => by
    unfold rowR cmpS
    rw [Bool.eq_iff_iff, decide_eq_true_eq, onL_mem]
    exact ⟨fun h => h.2, fun h => ⟨h0 v hv, h⟩⟩
  have e2 : ∀ ρ, f.sem (cmpS L ρ) = f.sem (cmpS L (chR (numR ρ))) := fun ρ => sem_hg hf.toCan fun v hv => by
    unfold cmpS allS
    obtain ⟨s, hs⟩ : ∃ s, L[v]? = some s := ⟨_, List.getElem?_eq_getElem (h0 v hv)⟩
    have hs6 := hL s (List.mem_of_getElem? hs)
    rw [hs, Option.getD_some]
    have key : ∀ z, z ∈ s → semZ z ρ = semZ z (chR (numR ρ)) := fun z hz => by
      unfold semZ
      by_cases h : z < 0
      · simp [h]
      · rw [chR_num z.toNat (by have := hs6 z hz; omega)]
    rw [Bool.eq_iff_iff, List.all_eq_true, List.all_eq_true]
    exact ⟨fun h z hz => by rw [← key z hz]; exact h z hz, fun h z hz => by rw [key z hz]; exact h z hz⟩
  constructor
  · intro h ρ
    rw [e2, ← e1]
    exact h _ numR_lt
  · intro h c _
    rw [e1]
    exact h _

theorem vars_last {f : BF} {zs : List Int} (hz : VarsOf f zs) {n : Nat} {z : Int} (hl : zs[zs.length - 1]? = some z) : z < n ↔ ∀ v, Hg f v → v < n := by
  constructor
  · intro h v hv
    obtain ⟨i, hi⟩ := List.getElem?_of_mem ((hz.mem (v : Int)).2 ⟨by omega, by simpa using hv⟩)
    obtain ⟨a1, a2⟩ := List.getElem?_eq_some_iff.1 hi
    obtain ⟨b1, b2⟩ := List.getElem?_eq_some_iff.1 hl
    by_cases e : i = zs.length - 1
    · subst e; rw [hl] at hi; cases hi; omega
    · have := List.pairwise_iff_getElem.1 hz.up i (zs.length - 1) a1 b1 (by omega)
      rw [a2, b2] at this
      omega
  · intro h
    obtain ⟨h1, h2⟩ := (hz.mem z).1 (List.mem_of_getElem? hl)
    have := h _ h2
    omega

theorem _root_.Go.Am.Tells.c7 {m : Mem} {l : Heap} {P : AV → Mem → Prop} {c : Nat} {z : Int} {k : KV} (hc : c < 64) (hs : Sep m l) (hk : ∀ m', Sep m' l → Tells (k (.bool (bitN c z)) m') P) : Tells (callK (Am.Call T) (.func 7 [] []) false [vI c, .int .i64 z] m k) P := by
  refine Tells.call (args := [vI c, .int .i64 z]) rfl (call7 hc hs) ?_
  rintro _ m ⟨rfl, h⟩
  exact hk m h

set_option maxHeartbeats 8000000 in
theorem all3 {L : List (List Int)} {els : List AV} {c v i : Nat} {s : List Int} {x fl : AV} {fr : Heap} {t : Nat} (hsv : L[v]? = some s) (hx : els[v]? = some x) (hi : IsInts x s) (hs6 : s.length ≤ 6) (hc : c < 64) (hv : v < 8) {n : Nat} (hn : 100 < n) {kn : KN} {kx : KX} {P : AV → Mem → Prop} {m : Mem}
    (h : Sep m ((t, .tip (onL L c v).length) :: fr))
    (hk : ∀ m', Sep m' ((t, .tip (onL L c (v + 1)).length) :: fr) → Tells (kn [(1, .list .shared 1 els), (5, fl), (10, vI i), (13, vI c), (14, .list (.own t) 1 ((onL L c (v + 1)).map vZ)), (15, vI (v + 1 : Nat))] m') P) :
    Tells (S3_11 (Am.Call T) n kn kx (.list .shared 1 els) fl (vI i) (vI c) (.list (.own t) 1 ((onL L c v).map vZ)) (vI v) m) P := by
  obtain ⟨ks, rfl, hks⟩ := hi
  have hls : (s.map vZ).length = s.length := List.length_map _
  have hol := onL_len (L := L) (c := c) (n := v)
  have hom : ((onL L c v).map vZ).length = (onL L c v).length := List.length_map _
  unfold S3_11 G3_11
  refine Tells.loop (fun j vs m => ∃ k : Nat, k + j = s.length ∧ vs = [.list .shared 1 els, fl, vI i, vI c, .list (.own t) 1 ((onL L c v).map vZ), vI v, .bool (allS (s.take k) (chR c)), vI k] ∧ Sep m ((t, .tip (onL L c v).length) :: fr)) ?_ (i := s.length) (by omega) ?_
  · rintro j vs m L2 ⟨k, j1, rfl, h⟩ hL
    unfold S3_8 G3_8
    by_cases hk2 : k < s.length
    · obtain ⟨z, hz⟩ : ∃ z, s[k]? = some z := ⟨_, List.getElem?_eq_getElem hk2⟩
      have hgz : (s.map vZ)[k]? = some (vZ z) := by rw [List.getElem?_map, hz]; rfl
      have hks : ks = 1 := hks.resolve_right (by intro e; rw [e] at hk2; simp at hk2)
      subst hks
      have htk : allS (s.take (k + 1)) (chR c) = (allS (s.take k) (chR c) && semZ z (chR c)) := by
        rw [List.take_add_one, hz]; simp [allS]
      cases hb : allS (s.take k) (chR c) with
      | false =>
        refine .indexL (j := v) (by rfl) hx ?_
        refine .loadC1 (by rfl) ?_
        refine .lenL ?_
        refine .lss ?_
        refine .condT (by first | assumption | omega) ?_
        refine .gft ?_
        refine .gft ?_
        refine .gft ?_
        refine .gft ?_
        refine .gft ?_
        refine .gft ?_
        refine .gft ?_
        refine .gft ?_
        refine .gft ?_
        refine .gN ?_
        refine .gN ?_
        refine .gN ?_
        refine .gN ?_
        refine .gN ?_
        refine .gN ?_
        refine .gN ?_
        refine .gN ?_
        refine .gN ?_
        refine .gft ?_
        refine .pickff ?_
        refine .add (by rfl) (by omega) ?_
        exact hL (j - 1) _ _ (by omega) ⟨k + 1, by omega, by rw [htk, hb]; rfl, h⟩
      | true =>
        by_cases hz0 : z < 0
        · refine .indexL (j := v) (by rfl) hx ?_
          refine .loadC1 (by rfl) ?_
          refine .lenL ?_
          refine .lss ?_
          refine .condT (by first | assumption | omega) ?_
          refine .gtt ?_
          refine .gtt ?_
          refine .gtt ?_
          refine .indexL (j := v) (by rfl) hx ?_
          refine .gtt ?_
          refine .loadC1 (by rfl) ?_
          refine .gtt ?_
          refine .gtt ?_
          refine .indexL (j := k) (by rfl) hgz ?_
          refine .gtt ?_
          refine .loadC1 (by rfl) ?_
          refine .gtt ?_
          refine .lss ?_
          refine .gtt ?_
          refine .gTF (by rfl) (by first | assumption | omega) ?_
          refine .gTF (by rfl) (by first | assumption | omega) ?_
          refine .gTF (by rfl) (by first | assumption | omega) ?_
          refine .gTF (by rfl) (by first | assumption | omega) ?_
          refine .gTF (by rfl) (by first | assumption | omega) ?_
          refine .gTF (by rfl) (by first | assumption | omega) ?_
          refine .gTF (by rfl) (by first | assumption | omega) ?_
          refine .gTF (by rfl) (by first | assumption | omega) ?_
          refine .gTF (by rfl) (by first | assumption | omega) ?_
          refine .gtt ?_
          refine .pickT (by first | assumption | omega) ?_
          refine .picktt ?_
          refine .add (by rfl) (by omega) ?_
          exact hL (j - 1) _ _ (by omega) ⟨k + 1, by omega, by rw [htk, hb, semZ, decide_eq_true hz0]; rfl, h⟩
        · refine .indexL (j := v) (by rfl) hx ?_
          refine .loadC1 (by rfl) ?_
          refine .lenL ?_
          refine .lss ?_
          refine .condT (by first | assumption | omega) ?_
          refine .gtt ?_
          refine .gtt ?_
          refine .gtt ?_
          refine .indexL (j := v) (by rfl) hx ?_
          refine .gtt ?_
          refine .loadC1 (by rfl) ?_
          refine .gtt ?_
          refine .gtt ?_
          refine .indexL (j := k) (by rfl) hgz ?_
          refine .gtt ?_
          refine .loadC1 (by rfl) ?_
          refine .gtt ?_
          refine .lss ?_
          refine .gtt ?_
          refine .gF (by rfl) (by first | assumption | omega) ?_
          refine .gF (by rfl) (by first | assumption | omega) ?_
          refine .gF (by rfl) (by first | assumption | omega) ?_
          refine .gF (by rfl) (by first | assumption | omega) ?_
          refine .indexL (j := v) (by rfl) hx ?_
          refine .gF (by rfl) (by first | assumption | omega) ?_
          refine .loadC1 (by rfl) ?_
          refine .gF (by rfl) (by first | assumption | omega) ?_
          refine .gF (by rfl) (by first | assumption | omega) ?_
          refine .indexL (j := k) (by rfl) hgz ?_
          refine .gF (by rfl) (by first | assumption | omega) ?_
          refine .loadC1 (by rfl) ?_
          refine .gF (by rfl) (by first | assumption | omega) ?_
          refine .c7 hc h ?_
          intro m h
          refine .gtt ?_
          refine .pickF (by first | assumption | omega) ?_
          refine .picktt ?_
          refine .add (by rfl) (by omega) ?_
          exact hL (j - 1) _ _ (by omega) ⟨k + 1, by omega, by rw [htk, hb, semZ, decide_eq_false hz0, bitN_ch (by omega)]; rfl, h⟩
    · have hke : k = s.length := by omega
      subst hke
      rw [List.take_length]
      have hon : onL L c (v + 1) = onL L c v ++ if allS s (chR c) then [(v : Int)] else [] := by rw [onL, hsv]; rfl
      cases hb : allS s (chR c) with
      | true =>
        rw [hb, if_pos rfl] at hon
        rw [hon] at hk
        refine .indexL (j := v) (by rfl) hx ?_
        refine .loadC1 (by rfl) ?_
        refine .lenL ?_
        refine .lss ?_
        refine .condF (by first | assumption | omega) ?_
        refine .blk ?_
        refine .condtt ?_
        refine .bs1 ?_
        refine Tells.append1 (n := 1) (y := vI v) (j := (onL L c v).length) h .z (by rw [hom]) (by simp only [room]; omega) (by omega) rfl rfl ?_
        intro m h
        refine .add (by rfl) (by omega) ?_
        rw [List.length_append, List.map_append] at hk
        exact hk _ h
      | false =>
        rw [hb, if_neg (by simp), List.append_nil] at hon
        rw [hon] at hk
        refine .indexL (j := v) (by rfl) hx ?_
        refine .loadC1 (by rfl) ?_
        refine .lenL ?_
        refine .lss ?_
        refine .condF (by first | assumption | omega) ?_
        refine .blk ?_
        refine .condff ?_
        refine .add (by rfl) (by omega) ?_
        exact hk _ h
  · exact ⟨0, by omega, rfl, h⟩
end Go.Proofs.P16
namespace Go.Proofs.P16
set_option linter.all false
open Go Go.Am Go.Bdd
attribute [local irreducible] loadK storeK newK boxK tipK makeMapK buildTK buildK buildSliceK nilK binK unK condK convK eqvK pickK gK gDK vK extractK fieldK lookupK mapUpdateK appendK min2K max2K retK makeSliceK freezeK bytesK loopV blkK stayK sameK rangeK callK aFieldAddr aIndexAddr aIndexAddrA aLen aIndex aSlice

set_option maxHeartbeats 8000000 in
theorem on3 {L : List (List Int)} {els fv : List AV} {c i : Nat} {f : BF} {x : AV} {fr : Heap} (hel : els.length = L.length) (hels : ∀ (i : Nat) (s : List Int), L[i]? = some s → ∃ x, els[i]? = some x ∧ IsInts x s) (hLl : L.length ≤ 8) (hL6 : ∀ s ∈ L, s.length ≤ 6 ∧ ∀ y ∈ s, y < 6)
    (hc : c < 64) (hfx : fv[i]? = some x) (hx : IsFn x f) (hf : Gd 6 f) {n : Nat} (hn : 100 < n) {kn : KN} {kx : KX} {P : AV → Mem → Prop} {m : Mem} (h : Sep m fr)
    (hk : ∀ m', Sep m' fr → Tells (kn [(1, .list .shared 1 els), (5, .list .shared 2 fv), (10, vI i), (12, .bool (f.sem (rowR (onL L c L.length)))), (13, vI (c + 1 : Nat))] m') P) :
    Tells (S3_15 (Am.Call T) n kn kx (.list .shared 1 els) (.list .shared 2 fv) (vI i) (vI c) m) P := by
  obtain ⟨kf, rfl, hkf⟩ := hx
  unfold S3_15 G3_15
  refine Tells.tip h ?_
  intro t m h
  refine Tells.loop (fun j vs m => ∃ v : Nat, v + j = L.length ∧ vs = [.list .shared 1 els, .list .shared 2 fv, vI i, vI c, .list (.own t) 1 ((onL L c v).map vZ), vI v] ∧ Sep m ((t, .tip (onL L c v).length) :: fr)) ?_ (i := L.length) (by omega) ?_
  · rintro j vs m L2 ⟨v, j1, rfl, h⟩ hL
    unfold S3_12 G3_12
    by_cases hv : v < L.length
    · obtain ⟨s, hs⟩ : ∃ s, L[v]? = some s := ⟨_, List.getElem?_eq_getElem hv⟩
      obtain ⟨xs, hxs, hxi⟩ := hels v s hs
      refine Tells.lenL ?_
      refine Tells.lss ?_
      refine Tells.condT (by omega) ?_
      refine all3 hs hxs hxi (hL6 s (List.mem_of_getElem? hs)).1 hc (by omega) hn h ?_
      intro m h
      exact hL (j - 1) _ _ (by omega) ⟨v + 1, by omega, rfl, h⟩
    · have hve : v = L.length := by omega
      subst hve
      have hol := onL_len (L := L) (c := c) (n := L.length)
      have nlt : ¬ ((L.length : Int) < els.length) := by omega
      refine .lenL ?_
      refine .lss ?_
      refine .condF (by first | assumption | omega) ?_
      refine .blk ?_
      refine Tells.indexL (j := i) rfl hfx ?_
      refine Tells.loadCA (n := 2) (xs := [.list .shared kf (f.nodes.map encNd), .bool f.one]) rfl ?_
      refine Tells.call (args := [.agg [.list .shared kf (f.nodes.map encNd), .bool f.one], .list .shared 1 ((onL L c L.length).map vZ)]) rfl (call8 ⟨kf, rfl, hkf⟩ hf ⟨1, rfl, .inl rfl⟩ (by omega) h) ?_
      rintro _ m ⟨rfl, h⟩
      refine .add (by rfl) (by omega) ?_
      exact hk _ h.tail
  · exact ⟨0, by omega, rfl, h⟩

set_option maxHeartbeats 8000000 in
theorem text3 {els fv : List AV} {ts : List Nat} {fs : List BF} {i : Nat} {sets : AV} {fr : Heap} (hfam : Fam fv ts fs) (hi : i < fs.length) (hl : fs.length ≤ 20) {n : Nat} (hn : 100 < n) {kn : KN} {kx : KX} {P : AV → Mem → Prop} {m : Mem} (h : Sep m fr)
    (hk : ∀ m', Sep m' fr → Tells (kn [(1, sets), (5, .list .shared 2 fv), (10, vI (i + 1 : Nat))] m') P) :
    Tells (S3_21 (Am.Call T) n kn kx sets (.list .shared 2 fv) (vI i) m) P := by
  obtain ⟨f, hfi⟩ : ∃ f, fs[i]? = some f := ⟨_, List.getElem?_eq_getElem hi⟩
  obtain ⟨x, t, hfx, ⟨kf, rfl, hkf⟩, _, htt⟩ := hfam.ok i f hfi
  unfold S3_21 G3_21
  refine Tells.loop (fun j vs m => ∃ k : Nat, k + j = i ∧ vs = [sets, .list .shared 2 fv, vI i, vI k] ∧ Sep m fr) ?_ (i := i) (by omega) ?_
  · rintro j vs m L2 ⟨k, j1, rfl, h⟩ hL
    unfold S3_20 G3_20
    by_cases hki : k < i
    · obtain ⟨g, hgi⟩ : ∃ g, fs[k]? = some g := ⟨_, List.getElem?_eq_getElem (by omega)⟩
      obtain ⟨y, u, hgx, ⟨kg, rfl, hkg⟩, _, htg⟩ := hfam.ok k g hgi
      refine .lss ?_
      refine .condT (by first | assumption | omega) ?_
      refine .indexL (j := i) (by rfl) hfx ?_
      refine .loadCA (by rfl) ?_
      refine Tells.call rfl (call10 ⟨kf, rfl, hkf⟩ htt.gd h) ?_
      rintro _ m ⟨rfl, h⟩
      refine .indexL (j := k) (by rfl) hgx ?_
      refine .loadCA (by rfl) ?_
      refine Tells.call rfl (call10 ⟨kg, rfl, hkg⟩ htg.gd h) ?_
      rintro _ m ⟨rfl, h⟩
      refine Tells.eqS ?_
      refine .indexL (j := i) (by rfl) hfx ?_
      refine .loadCA (by rfl) ?_
      refine .indexL (j := k) (by rfl) hgx ?_
      refine .loadCA (by rfl) ?_
      refine Tells.call rfl (call11 ⟨kf, rfl, hkf⟩ ⟨kg, rfl, hkg⟩ htt.gd.len h) ?_
      rintro _ m ⟨rfl, h⟩
      rw [txtF_inj htt.gd htg.gd]
      have ee : ¬ ¬ decide (f = g) = decide (f = g) := fun e => e rfl
      refine .neB ?_
      refine .stay (by first | exact stayK_nil | (repeat first | exact stayK_nil | refine stayK_cons ?_ ?_ | refine stayK_not ?_ | exact stayN_zero | refine stayN_succ (by rfl) (by first | exact Sep.load1 ‹_› (by first | exact .z | exact .s .z | exact .s (.s .z) | exact .s (.s (.s .z)) | exact .s (.s (.s (.s .z))) | exact .s (.s (.s (.s (.s .z)))) | exact .s (.s (.s (.s (.s (.s .z))))) | exact .s (.s (.s (.s (.s (.s (.s .z)))))) | exact .s (.s (.s (.s (.s (.s (.s (.s .z))))))) | exact .s (.s (.s (.s (.s (.s (.s (.s (.s .z)))))))) | exact .s (.s (.s (.s (.s (.s (.s (.s (.s (.s .z))))))))) | exact .s (.s (.s (.s (.s (.s (.s (.s (.s (.s (.s .z)))))))))) | exact .s (.s (.s (.s (.s (.s (.s (.s (.s (.s (.s (.s .z))))))))))) | exact .s (.s (.s (.s (.s (.s (.s (.s (.s (.s (.s (.s (.s .z))))))))))))) (by rfl) | exact Sep.loadA ‹_› (by first | exact .z | exact .s .z | exact .s (.s .z) | exact .s (.s (.s .z)) | exact .s (.s (.s (.s .z))) | exact .s (.s (.s (.s (.s .z)))) | exact .s (.s (.s (.s (.s (.s .z))))) | exact .s (.s (.s (.s (.s (.s (.s .z)))))) | exact .s (.s (.s (.s (.s (.s (.s (.s .z))))))) | exact .s (.s (.s (.s (.s (.s (.s (.s (.s .z)))))))) | exact .s (.s (.s (.s (.s (.s (.s (.s (.s (.s .z))))))))) | exact .s (.s (.s (.s (.s (.s (.s (.s (.s (.s (.s .z)))))))))) | exact .s (.s (.s (.s (.s (.s (.s (.s (.s (.s (.s (.s .z))))))))))) | exact .s (.s (.s (.s (.s (.s (.s (.s (.s (.s (.s (.s (.s .z))))))))))))) (by rfl) | rfl) ?_)) ?_
      refine .condF (by first | assumption | omega) ?_
      refine .add (by rfl) (by omega) ?_
      exact hL (j - 1) _ _ (by omega) ⟨k + 1, by omega, rfl, h⟩
    · have hke : k = i := by omega
      subst hke
      refine .lss ?_
      refine .condF (by first | assumption | omega) ?_
      refine .blk ?_
      refine .add (by rfl) (by omega) ?_
      exact hk _ h
  · exact ⟨0, by omega, rfl, h⟩
end Go.Proofs.P16
