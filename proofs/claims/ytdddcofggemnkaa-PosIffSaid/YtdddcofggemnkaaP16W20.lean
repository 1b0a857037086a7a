/- The walk through PosIff, up to the region whose effects come in any order. -/
import Derived.Test.YtdddcofggemnkaaP16W15
import Derived.Test.YtdddcofggemnkaaAmZ
import Derived.KernelRfl
namespace Go.Proofs.P16
set_option linter.all false
open Go Go.Am Go.Bdd
attribute [local irreducible] loadK storeK newK boxK tipK makeMapK buildTK buildK buildSliceK nilK binK unK condK convK eqvK pickK gK gDK vK extractK fieldK lookupK mapUpdateK appendK min2K max2K retK makeSliceK freezeK bytesK loopV blkK stayK sameK rangeK callK aFieldAddr aIndexAddr aIndexAddrA aLen aIndex aSlice

abbrev fnC (k : Nat) (f : BF) : List AV := [.list .shared k (f.nodes.map encNd), .bool f.one]
abbrev fnO (k : Nat) (f : BF) : AObj := .row 0 (fnC k f)

/-- PosIff up to the open region. -/
def h6 : C := c6 (c6_22 (c6_21 (c6_20 (c6_19 b6_4 (c6_18 .skip)))))

theorem head6 {n : Nat} {kn : KN} {kx : KX} {y0 y1 y2 : AV} {m : Mem} : evK (Am.Call T) n h6 [(0, y0), (1, y1), (2, y2)] m kn kx =
    G6_22 (Am.Call T) n kn kx (fun x0 x1 x2 m => G6_21 (Am.Call T) n kn kx (fun x0 x1 x2 x3 m => G6_19 (Am.Call T) n kn kx (S6_4 (Am.Call T) n) (fun x0 x1 x2 x3 m => G6_18 (Am.Call T) n kn kx (fun x0 x1 x2 x3 x4 m => kn [(0, x0), (1, x1), (2, x2), (7, x3), (10, x4)] m) x0 x1 x2 x3 m) x0 x1 x2 x3 (.bool false) m) x0 x1 x2 m) y0 y1 y2 m := by
  rw [← l6_4]
  unfold h6
  rw [g6]
  show evK (Am.Call T) n (c6_22 _) _ m kn kx = _
  rw [g6_22]
  congr 1

theorem wp6 {n : Nat} {kn : Env → Mem → Prop} {kx : X → Env → Mem → Prop} {y0 y1 y2 : AV} {m : Mem} (h : Tells (G6_22 (Am.Call T) n (asN fun e m => WPc (Am.Call T) b6_17 e m kn kx) (asX kx) (fun x0 x1 x2 m => G6_21 (Am.Call T) n (asN fun e m => WPc (Am.Call T) b6_17 e m kn kx) (asX kx) (fun x0 x1 x2 x3 m => G6_19 (Am.Call T) n (asN fun e m => WPc (Am.Call T) b6_17 e m kn kx) (asX kx) (S6_4 (Am.Call T) n) (fun x0 x1 x2 x3 m => G6_18 (Am.Call T) n (asN fun e m => WPc (Am.Call T) b6_17 e m kn kx) (asX kx) (fun x0 x1 x2 x3 x4 m => (asN fun e m => WPc (Am.Call T) b6_17 e m kn kx) [(0, x0), (1, x1), (2, x2), (7, x3), (10, x4)] m) x0 x1 x2 x3 m) x0 x1 x2 x3 (.bool false) m) x0 x1 x2 m) y0 y1 y2 m) fun _ _ => True) :
    WPc (Am.Call T) b6 [(0, y0), (1, y1), (2, y2)] m kn kx := by
  have h1 : WPc (Am.Call T) h6 [(0, y0), (1, y1), (2, y2)] m (fun e m => WPc (Am.Call T) b6_17 e m kn kx) kx := wpc_tells (n := n) rfl head6 h
  exact h1

set_option maxRecDepth 100000 in
theorem tail6 {n : Nat} {kn : Env → Mem → Prop} {kx : X → Env → Mem → Prop} {y0 y1 y2 y3 y4 y5 : AV} {m : Mem} (h : Tells (S6_16 (Am.Call T) n (asN kn) (asX kx) y0 y1 y2 y3 y4 y5 m) fun _ _ => True) :
    WPc (Am.Call T) b6_16 [(0, y0), (1, y1), (2, y2), (7, y3), (10, y4), (11, y5)] m kn kx :=
  wpc_tells (n := n) (by kernel_rfl) (Eq.mp (by kernel_rfl) (show d6_16 (Am.Call T) n (asN kn) (asX kx) y0 y1 y2 y3 y4 y5 m = S6_16 (Am.Call T) n (asN kn) (asX kx) y0 y1 y2 y3 y4 y5 m by rw [l6_16])) h

theorem reg6 {kn : Env → Mem → Prop} {kx : X → Env → Mem → Prop} {y0 y1 y2 y3 y4 : AV} {m : Mem} (h : Tree (Am.Call T) d6_5 (fun L m => WPc (Am.Call T) b6_16 ((L.keep [0, 1, 2, 7, 10, 11]).keep [0, 1, 2, 7, 10, 11]) m kn kx) d6_5.length 0 [(0, y0), (1, y1), (2, y2), (7, y3), (10, y4)] m) :
    WPc (Am.Call T) b6_17 [(0, y0), (1, y1), (2, y2), (7, y3), (10, y4)] m kn kx := h

theorem head_iff {m : Mem} {fr : Heap} {z : Int} {k t : Nat} {L : List Int} (hk : k = 1 ∨ L = []) (hlen : L.length < 1152921504606846976) (h : Sep m fr)
    (hT : ∀ (pa pf ka kf : Nat) (fa f : BF) (m : Mem), 0 ≤ z → z ≤ 5 → L.length ≤ 6 → (∀ x ∈ L, 0 ≤ x ∧ x ≤ 5) → Gd 6 fa → (ka = 3 ∨ fa.nodes = []) → (∀ ρ, fa.sem ρ = L.all fun x => semZ x ρ) → Gd 6 f → (kf = 3 ∨ f.nodes = []) → (∀ ρ, f.sem ρ = iffS z L ρ) →
      Sep m ((pf, fnO kf f) :: (pa, fnO ka fa) :: fr) → WPc (Am.Call T) b6_17 [(0, .int .i64 z), (1, .list .shared k (L.map vZ)), (2, .int .u8 t), (7, .ptr pa 0 0), (10, .ptr pf 0 0)] m (Yes f6 .nrm) (Yes f6)) :
    WPc (Am.Call T) b6 [(0, .int .i64 z), (1, .list .shared k (L.map vZ)), (2, .int .u8 t)] m (Yes f6 .nrm) (Yes f6) := by
  refine wp6 (n := 20) ?_
  have hlenL : (L.map vZ).length = L.length := List.length_map _
  have out : ∀ {M : Mem}, Sep M fr → Tells (callK (Am.Call T) (.func 15 [] []) false [] M fun a m => asX (Yes f6) .ret [(6, a)] m) fun _ _ => True := by
    intro M h
    refine Tells.call rfl (call15 h) ?_
    rintro _ _ ⟨rfl, h⟩
    exact tells_asX ⟨_, rfl, rfl⟩
  unfold G6_22
  by_cases hz : z < 0
  · refine .lss ?_
    refine .gTF (by rfl) (by first | assumption | omega) ?_
    refine .gTF (by rfl) (by first | assumption | omega) ?_
    refine .pickT (by first | assumption | omega) ?_
    refine .gtf ?_
    refine .gtf ?_
    refine .gtf ?_
    refine .picktt ?_
    refine .condtt ?_
    exact out h
  by_cases hz5 : 5 < z
  · refine .lss ?_
    refine .gF (by rfl) (by first | assumption | omega) ?_
    refine .gF (by rfl) (by first | assumption | omega) ?_
    refine .gtr ?_
    refine .pickF (by first | assumption | omega) ?_
    refine .gTF (by rfl) (by first | assumption | omega) ?_
    refine .gTF (by rfl) (by first | assumption | omega) ?_
    refine .gTF (by rfl) (by first | assumption | omega) ?_
    refine .pickT (by first | assumption | omega) ?_
    refine .condtt ?_
    exact out h
  by_cases hl6 : 6 < L.length
  · refine .lss ?_
    refine .gF (by rfl) (by first | assumption | omega) ?_
    refine .gF (by rfl) (by first | assumption | omega) ?_
    refine .gtr ?_
    refine .pickF (by first | assumption | omega) ?_
    refine .gF (by rfl) (by first | assumption | omega) ?_
    refine .gF (by rfl) (by first | assumption | omega) ?_
    refine .lenL ?_
    refine .gF (by rfl) (by first | assumption | omega) ?_
    refine .gtr ?_
    refine .pickF (by first | assumption | omega) ?_
    refine .condT (by first | assumption | omega) ?_
    exact out h
  refine .lss ?_
  refine .gF (by rfl) (by first | assumption | omega) ?_
  refine .gF (by rfl) (by first | assumption | omega) ?_
  refine .gtr ?_
  refine .pickF (by first | assumption | omega) ?_
  refine .gF (by rfl) (by first | assumption | omega) ?_
  refine .gF (by rfl) (by first | assumption | omega) ?_
  refine .lenL ?_
  refine .gF (by rfl) (by first | assumption | omega) ?_
  refine .gtr ?_
  refine .pickF (by first | assumption | omega) ?_
  refine .condF (by first | assumption | omega) ?_
  unfold G6_21
  refine Tells.call rfl (call10 h) ?_
  rintro _ _ ⟨⟨k1, rfl, hk1⟩, h⟩
  refine .new ‹_› ?_
  intro nw m h
  refine .storeA ‹_› .z (by rfl) (by rfl) ?_
  intro m h
  unfold G6_19
  refine Tells.loop (fun j vs m => ∃ (i ka : Nat) (fa : BF) (own : Bool), i + j = L.length ∧ Gd 6 fa ∧ (ka = 3 ∨ fa.nodes = []) ∧ (∀ ρ, fa.sem ρ = (L.take i).all fun x => semZ x ρ) ∧ (∀ x ∈ L.take i, 0 ≤ x ∧ x ≤ 5) ∧ vs = [.int .i64 z, .list .shared k (L.map vZ), .int .u8 t, .ptr nw 0 0, .bool own, vI i] ∧ Sep m ((nw, fnO ka fa) :: fr)) ?_ (i := L.length) (by omega) ?_
  · rintro j vs m L2 ⟨i, ka, fa, own, j1, j2, j3, j4, j5, rfl, h⟩ hL
    by_cases hi : i < L.length
    · obtain ⟨y, hy⟩ : ∃ y, L[i]? = some y := ⟨_, List.getElem?_eq_getElem hi⟩
      have hgy : (L.map vZ)[i]? = some (.int .i64 y) := by rw [List.getElem?_map, hy]; rfl
      have hk1 : k = 1 := hk.resolve_right (by intro e; rw [e] at hi; simp at hi)
      subst hk1
      have htk : L.take (i + 1) = L.take i ++ [y] := by rw [List.take_add_one, hy]; rfl
      unfold S6_4 G6_4
      refine .lenL ?_
      refine .lss ?_
      refine .condT (by first | assumption | omega) ?_
      unfold S6_3 G6_3
      by_cases hy0 : y < 0
      · refine .indexL (j := i) (by rfl) hgy ?_
        refine .loadC1 (by rfl) ?_
        refine .lss ?_
        refine .gTF (by rfl) (by first | assumption | omega) ?_
        refine .gTF (by rfl) (by first | assumption | omega) ?_
        refine .gTF (by rfl) (by first | assumption | omega) ?_
        refine .gTF (by rfl) (by first | assumption | omega) ?_
        refine .gTF (by rfl) (by first | assumption | omega) ?_
        refine .pickT (by first | assumption | omega) ?_
        refine .condtt ?_
        refine Tells.call rfl (call15 h.tail) ?_
        rintro _ _ ⟨rfl, h⟩
        refine .blkR ?_
        exact tells_asX ⟨_, rfl, rfl⟩
      by_cases hy5 : 5 < y
      · refine .indexL (j := i) (by rfl) hgy ?_
        refine .loadC1 (by rfl) ?_
        refine .lss ?_
        refine .gF (by rfl) (by first | assumption | omega) ?_
        refine .gF (by rfl) (by first | assumption | omega) ?_
        refine .gF (by rfl) (by first | assumption | omega) ?_
        refine .indexL (j := i) (by rfl) hgy ?_
        refine .gF (by rfl) (by first | assumption | omega) ?_
        refine .loadC1 (by rfl) ?_
        refine .gF (by rfl) (by first | assumption | omega) ?_
        refine .gtr ?_
        refine .pickF (by first | assumption | omega) ?_
        refine .condT (by first | assumption | omega) ?_
        refine Tells.call rfl (call15 h.tail) ?_
        rintro _ _ ⟨rfl, h⟩
        refine .blkR ?_
        exact tells_asX ⟨_, rfl, rfl⟩
      refine .indexL (j := i) (by rfl) hgy ?_
      refine .loadC1 (by rfl) ?_
      refine .lss ?_
      refine .gF (by rfl) (by first | assumption | omega) ?_
      refine .gF (by rfl) (by first | assumption | omega) ?_
      refine .gF (by rfl) (by first | assumption | omega) ?_
      refine .indexL (j := i) (by rfl) hgy ?_
      refine .gF (by rfl) (by first | assumption | omega) ?_
      refine .loadC1 (by rfl) ?_
      refine .gF (by rfl) (by first | assumption | omega) ?_
      refine .gtr ?_
      refine .pickF (by first | assumption | omega) ?_
      refine .condF (by first | assumption | omega) ?_
      refine .loadA ‹_› .z (by rfl) ?_
      refine .indexL (j := i) (by rfl) hgy ?_
      refine .loadC1 (by rfl) ?_
      refine Tells.call rfl (call25 h) ?_
      rintro _ _ ⟨⟨k2, rfl, hk2⟩, h⟩
      refine Tells.call rfl (call11 (K := 6) (by omega) ⟨_, rfl, j3⟩ ⟨_, rfl, hk2⟩ j2 (gd_varB (by omega) (by omega)) h) ?_
      rintro _ _ ⟨q, ⟨k3, rfl, hk3⟩, h, q1, q2⟩
      have q3 := tk (by omega) q2
      cases own with
      | true =>
        refine .storeA ‹_› .z (by rfl) (by rfl) ?_
        intro m h
        refine .stay (by first | exact stayK_nil | (repeat first | exact stayK_nil | refine stayK_cons ?_ ?_ | refine stayK_not ?_ | exact stayN_zero | refine stayN_succ (by rfl) (by first | exact Sep.load1 ‹_› (by first | exact .z | exact .s .z | exact .s (.s .z) | exact .s (.s (.s .z)) | exact .s (.s (.s (.s .z))) | exact .s (.s (.s (.s (.s .z)))) | exact .s (.s (.s (.s (.s (.s .z))))) | exact .s (.s (.s (.s (.s (.s (.s .z)))))) | exact .s (.s (.s (.s (.s (.s (.s (.s .z))))))) | exact .s (.s (.s (.s (.s (.s (.s (.s (.s .z)))))))) | exact .s (.s (.s (.s (.s (.s (.s (.s (.s (.s .z))))))))) | exact .s (.s (.s (.s (.s (.s (.s (.s (.s (.s (.s .z)))))))))) | exact .s (.s (.s (.s (.s (.s (.s (.s (.s (.s (.s (.s .z))))))))))) | exact .s (.s (.s (.s (.s (.s (.s (.s (.s (.s (.s (.s (.s .z))))))))))))) (by rfl) | exact Sep.loadA ‹_› (by first | exact .z | exact .s .z | exact .s (.s .z) | exact .s (.s (.s .z)) | exact .s (.s (.s (.s .z))) | exact .s (.s (.s (.s (.s .z)))) | exact .s (.s (.s (.s (.s (.s .z))))) | exact .s (.s (.s (.s (.s (.s (.s .z)))))) | exact .s (.s (.s (.s (.s (.s (.s (.s .z))))))) | exact .s (.s (.s (.s (.s (.s (.s (.s (.s .z)))))))) | exact .s (.s (.s (.s (.s (.s (.s (.s (.s (.s .z))))))))) | exact .s (.s (.s (.s (.s (.s (.s (.s (.s (.s (.s .z)))))))))) | exact .s (.s (.s (.s (.s (.s (.s (.s (.s (.s (.s (.s .z))))))))))) | exact .s (.s (.s (.s (.s (.s (.s (.s (.s (.s (.s (.s (.s .z))))))))))))) (by rfl) | rfl) ?_)) ?_
        refine .gtf ?_
        refine .gtf ?_
        refine .gtf ?_
        refine .gtf ?_
        refine .gtf ?_
        refine .gtf ?_
        refine .picktt ?_
        refine .add (by rfl) (by omega) ?_
        refine hL (j - 1) _ _ (by omega) ⟨i + 1, k3, q, _, by omega, q1, hk3, fun ρ => by rw [q3, j4, sem_varB, htk]; simp, fun x hx => ?_, rfl, h⟩
        rw [htk, List.mem_append, List.mem_singleton] at hx
        rcases hx with hx | rfl
        · exact j5 x hx
        · omega
      | false =>
        refine .storeA ‹_› .z (by rfl) (by rfl) ?_
        intro m h
        refine .stay (by first | exact stayK_nil | (repeat first | exact stayK_nil | refine stayK_cons ?_ ?_ | refine stayK_not ?_ | exact stayN_zero | refine stayN_succ (by rfl) (by first | exact Sep.load1 ‹_› (by first | exact .z | exact .s .z | exact .s (.s .z) | exact .s (.s (.s .z)) | exact .s (.s (.s (.s .z))) | exact .s (.s (.s (.s (.s .z)))) | exact .s (.s (.s (.s (.s (.s .z))))) | exact .s (.s (.s (.s (.s (.s (.s .z)))))) | exact .s (.s (.s (.s (.s (.s (.s (.s .z))))))) | exact .s (.s (.s (.s (.s (.s (.s (.s (.s .z)))))))) | exact .s (.s (.s (.s (.s (.s (.s (.s (.s (.s .z))))))))) | exact .s (.s (.s (.s (.s (.s (.s (.s (.s (.s (.s .z)))))))))) | exact .s (.s (.s (.s (.s (.s (.s (.s (.s (.s (.s (.s .z))))))))))) | exact .s (.s (.s (.s (.s (.s (.s (.s (.s (.s (.s (.s (.s .z))))))))))))) (by rfl) | exact Sep.loadA ‹_› (by first | exact .z | exact .s .z | exact .s (.s .z) | exact .s (.s (.s .z)) | exact .s (.s (.s (.s .z))) | exact .s (.s (.s (.s (.s .z)))) | exact .s (.s (.s (.s (.s (.s .z))))) | exact .s (.s (.s (.s (.s (.s (.s .z)))))) | exact .s (.s (.s (.s (.s (.s (.s (.s .z))))))) | exact .s (.s (.s (.s (.s (.s (.s (.s (.s .z)))))))) | exact .s (.s (.s (.s (.s (.s (.s (.s (.s (.s .z))))))))) | exact .s (.s (.s (.s (.s (.s (.s (.s (.s (.s (.s .z)))))))))) | exact .s (.s (.s (.s (.s (.s (.s (.s (.s (.s (.s (.s .z))))))))))) | exact .s (.s (.s (.s (.s (.s (.s (.s (.s (.s (.s (.s (.s .z))))))))))))) (by rfl) | rfl) ?_)) ?_
        refine .gff ?_
        refine .gff ?_
        refine .gff ?_
        refine .indexL (j := i) (by rfl) hgy ?_
        refine .gff ?_
        refine .loadC1 (by rfl) ?_
        refine .gff ?_
        refine .gff ?_
        refine .eql ?_
        refine .pickff ?_
        refine .add (by rfl) (by omega) ?_
        refine hL (j - 1) _ _ (by omega) ⟨i + 1, k3, q, _, by omega, q1, hk3, fun ρ => by rw [q3, j4, sem_varB, htk]; simp, fun x hx => ?_, rfl, h⟩
        rw [htk, List.mem_append, List.mem_singleton] at hx
        rcases hx with hx | rfl
        · exact j5 x hx
        · omega
    · unfold S6_4 G6_4
      refine .lenL ?_
      refine .lss ?_
      refine .condF (by first | assumption | omega) ?_
      refine .blk ?_
      have hi : i = L.length := by omega
      subst hi
      rw [List.take_length] at j4 j5
      unfold G6_18
      refine Tells.call rfl (call12 (K := 6) (by omega) ⟨k, rfl, hk⟩ (by omega) (by omega) (fun x hx => by have := j5 x hx; omega) h) ?_
      rintro _ _ ⟨f, ⟨k3, rfl, hk3⟩, h, q1, q2⟩
      have q3 := tk (by omega) q2
      refine .new ‹_› ?_
      intro nw m h
      refine .storeA ‹_› .z (by rfl) (by rfl) ?_
      intro m h
      exact tells_asN (hT _ _ _ _ _ _ _ (by omega) (by omega) (by omega) j5 j2 j3 j4 q1 hk3 q3 h)
  · exact ⟨0, k1, ⟨[], true⟩, false, by omega, gd_const, .inr rfl, fun ρ => by simp [sem_const], by simp, rfl, h⟩
end Go.Proofs.P16
