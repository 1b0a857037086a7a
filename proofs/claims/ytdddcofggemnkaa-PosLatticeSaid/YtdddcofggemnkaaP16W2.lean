/- The walk through the tables of nodes: two places at once; the opposite; a variable as it is told. -/
import Derived.Test.YtdddcofggemnkaaP16W
namespace Go.Proofs.P16
set_option linter.all false
open Go Go.Am Go.Bdd
attribute [local irreducible] loadK storeK newK boxK tipK makeMapK buildTK buildK buildSliceK nilK binK unK condK convK eqvK pickK gK gDK vK extractK fieldK lookupK mapUpdateK appendK min2K max2K retK makeSliceK freezeK bytesK loopV blkK stayK sameK rangeK callK aFieldAddr aIndexAddr aIndexAddrA aLen aIndex aSlice

abbrev encE (c : Option Nat) : AV := match c with | some c => .tuple [vI c, .bool true] | none => .tuple [vI 0, .bool false]

theorem call45 {m : Mem} {l : Heap} (hs : Sep m l) {a b : Nat} : Tells (Am.Call T 45 [vI a, vI b] m) fun r m' => r = encE (andE a b) ∧ Sep m' l := by
  refine Tells.fn 0 rfl F45_ok rfl ?_
  show Tells (S45 (Am.Call T) 0 m (vI a) (vI b)) _
  have h : Sep ⟨m.objs, none⟩ l := hs.objs rfl
  unfold S45 G45
  by_cases h1 : a = 0
  · refine .eql ?_
    refine .gTF (by rfl) (by first | assumption | omega) ?_
    refine .gTF (by rfl) (by first | assumption | omega) ?_
    refine .pickT (by first | assumption | omega) ?_
    refine .condtt ?_
    refine .ret2 (by rfl) ?_; intro m' hobj
    exact ⟨by first | (simp only [andE, if_pos (Or.inl h1)]; rfl) | simp only [andE, if_pos (Or.inl h1)], h.objs hobj⟩
  · by_cases h2 : b = 0
    · refine .eql ?_
      refine .gF (by rfl) (by first | assumption | omega) ?_
      refine .gF (by rfl) (by first | assumption | omega) ?_
      refine .eql ?_
      refine .pickF (by first | assumption | omega) ?_
      refine .condT (by first | assumption | omega) ?_
      refine .ret2 (by rfl) ?_; intro m' hobj
      exact ⟨by first | (simp only [andE, if_pos (Or.inr h2)]; rfl) | simp only [andE, if_pos (Or.inr h2)], h.objs hobj⟩
    · have h3 : ¬ (a = 0 ∨ b = 0) := by omega
      by_cases h4 : a = 1
      · refine .eql ?_
        refine .gF (by rfl) (by first | assumption | omega) ?_
        refine .gF (by rfl) (by first | assumption | omega) ?_
        refine .eql ?_
        refine .pickF (by first | assumption | omega) ?_
        refine .condF (by first | assumption | omega) ?_
        refine .eql ?_
        refine .condT (by first | assumption | omega) ?_
        refine .ret2 (by rfl) ?_; intro m' hobj
        exact ⟨by first | (simp only [andE, if_neg h3, if_pos h4]; rfl) | simp only [andE, if_neg h3, if_pos h4], h.objs hobj⟩
      · by_cases h5 : b = 1
        · refine .eql ?_
          refine .gF (by rfl) (by first | assumption | omega) ?_
          refine .gF (by rfl) (by first | assumption | omega) ?_
          refine .eql ?_
          refine .pickF (by first | assumption | omega) ?_
          refine .condF (by first | assumption | omega) ?_
          refine .eql ?_
          refine .condF (by first | assumption | omega) ?_
          refine .eql ?_
          refine .gTF (by rfl) (by first | assumption | omega) ?_
          refine .gTF (by rfl) (by first | assumption | omega) ?_
          refine .gTF (by rfl) (by first | assumption | omega) ?_
          refine .pickT (by first | assumption | omega) ?_
          refine .condtt ?_
          refine .ret2 (by rfl) ?_; intro m' hobj
          exact ⟨by first | (simp only [andE, if_neg h3, if_neg h4, if_pos (Or.inl h5)]; rfl) | simp only [andE, if_neg h3, if_neg h4, if_pos (Or.inl h5)], h.objs hobj⟩
        · by_cases h6 : a = b
          · refine .eql ?_
            refine .gF (by rfl) (by first | assumption | omega) ?_
            refine .gF (by rfl) (by first | assumption | omega) ?_
            refine .eql ?_
            refine .pickF (by first | assumption | omega) ?_
            refine .condF (by first | assumption | omega) ?_
            refine .eql ?_
            refine .condF (by first | assumption | omega) ?_
            refine .eql ?_
            refine .gF (by rfl) (by first | assumption | omega) ?_
            refine .gF (by rfl) (by first | assumption | omega) ?_
            refine .gF (by rfl) (by first | assumption | omega) ?_
            refine .eql ?_
            refine .pickF (by first | assumption | omega) ?_
            refine .condT (by first | assumption | omega) ?_
            refine .ret2 (by rfl) ?_; intro m' hobj
            exact ⟨by first | (simp only [andE, if_neg h3, if_neg h4, if_pos (Or.inr h6)]; rfl) | simp only [andE, if_neg h3, if_neg h4, if_pos (Or.inr h6)], h.objs hobj⟩
          · have h7 : ¬ (b = 1 ∨ a = b) := by omega
            refine .eql ?_
            refine .gF (by rfl) (by first | assumption | omega) ?_
            refine .gF (by rfl) (by first | assumption | omega) ?_
            refine .eql ?_
            refine .pickF (by first | assumption | omega) ?_
            refine .condF (by first | assumption | omega) ?_
            refine .eql ?_
            refine .condF (by first | assumption | omega) ?_
            refine .eql ?_
            refine .gF (by rfl) (by first | assumption | omega) ?_
            refine .gF (by rfl) (by first | assumption | omega) ?_
            refine .gF (by rfl) (by first | assumption | omega) ?_
            refine .eql ?_
            refine .pickF (by first | assumption | omega) ?_
            refine .condF (by first | assumption | omega) ?_
            refine .ret2 (by rfl) ?_; intro m' hobj
            exact ⟨by first | (simp only [andE, if_neg h3, if_neg h4, if_neg h7]; rfl) | simp only [andE, if_neg h3, if_neg h4, if_neg h7], h.objs hobj⟩

theorem call52 {m : Mem} {l : Heap} (hs : Sep m l) {a b : Nat} : Tells (Am.Call T 52 [vI a, vI b] m) fun r m' => r = encE (orE a b) ∧ Sep m' l := by
  refine Tells.fn 0 rfl F52_ok rfl ?_
  show Tells (S52 (Am.Call T) 0 m (vI a) (vI b)) _
  have h : Sep ⟨m.objs, none⟩ l := hs.objs rfl
  unfold S52 G52
  by_cases h1 : a = 1
  · refine .eql ?_
    refine .gTF (by rfl) (by first | assumption | omega) ?_
    refine .gTF (by rfl) (by first | assumption | omega) ?_
    refine .pickT (by first | assumption | omega) ?_
    refine .condtt ?_
    refine .ret2 (by rfl) ?_; intro m' hobj
    exact ⟨by first | (simp only [orE, if_pos (Or.inl h1)]; rfl) | simp only [orE, if_pos (Or.inl h1)], h.objs hobj⟩
  · by_cases h2 : b = 1
    · refine .eql ?_
      refine .gF (by rfl) (by first | assumption | omega) ?_
      refine .gF (by rfl) (by first | assumption | omega) ?_
      refine .eql ?_
      refine .pickF (by first | assumption | omega) ?_
      refine .condT (by first | assumption | omega) ?_
      refine .ret2 (by rfl) ?_; intro m' hobj
      exact ⟨by first | (simp only [orE, if_pos (Or.inr h2)]; rfl) | simp only [orE, if_pos (Or.inr h2)], h.objs hobj⟩
    · have h3 : ¬ (a = 1 ∨ b = 1) := by omega
      by_cases h4 : a = 0
      · refine .eql ?_
        refine .gF (by rfl) (by first | assumption | omega) ?_
        refine .gF (by rfl) (by first | assumption | omega) ?_
        refine .eql ?_
        refine .pickF (by first | assumption | omega) ?_
        refine .condF (by first | assumption | omega) ?_
        refine .eql ?_
        refine .condT (by first | assumption | omega) ?_
        refine .ret2 (by rfl) ?_; intro m' hobj
        exact ⟨by first | (simp only [orE, if_neg h3, if_pos h4]; rfl) | simp only [orE, if_neg h3, if_pos h4], h.objs hobj⟩
      · by_cases h5 : b = 0
        · refine .eql ?_
          refine .gF (by rfl) (by first | assumption | omega) ?_
          refine .gF (by rfl) (by first | assumption | omega) ?_
          refine .eql ?_
          refine .pickF (by first | assumption | omega) ?_
          refine .condF (by first | assumption | omega) ?_
          refine .eql ?_
          refine .condF (by first | assumption | omega) ?_
          refine .eql ?_
          refine .gTF (by rfl) (by first | assumption | omega) ?_
          refine .gTF (by rfl) (by first | assumption | omega) ?_
          refine .gTF (by rfl) (by first | assumption | omega) ?_
          refine .pickT (by first | assumption | omega) ?_
          refine .condtt ?_
          refine .ret2 (by rfl) ?_; intro m' hobj
          exact ⟨by first | (simp only [orE, if_neg h3, if_neg h4, if_pos (Or.inl h5)]; rfl) | simp only [orE, if_neg h3, if_neg h4, if_pos (Or.inl h5)], h.objs hobj⟩
        · by_cases h6 : a = b
          · refine .eql ?_
            refine .gF (by rfl) (by first | assumption | omega) ?_
            refine .gF (by rfl) (by first | assumption | omega) ?_
            refine .eql ?_
            refine .pickF (by first | assumption | omega) ?_
            refine .condF (by first | assumption | omega) ?_
            refine .eql ?_
            refine .condF (by first | assumption | omega) ?_
            refine .eql ?_
            refine .gF (by rfl) (by first | assumption | omega) ?_
            refine .gF (by rfl) (by first | assumption | omega) ?_
            refine .gF (by rfl) (by first | assumption | omega) ?_
            refine .eql ?_
            refine .pickF (by first | assumption | omega) ?_
            refine .condT (by first | assumption | omega) ?_
            refine .ret2 (by rfl) ?_; intro m' hobj
            exact ⟨by first | (simp only [orE, if_neg h3, if_neg h4, if_pos (Or.inr h6)]; rfl) | simp only [orE, if_neg h3, if_neg h4, if_pos (Or.inr h6)], h.objs hobj⟩
          · have h7 : ¬ (b = 0 ∨ a = b) := by omega
            refine .eql ?_
            refine .gF (by rfl) (by first | assumption | omega) ?_
            refine .gF (by rfl) (by first | assumption | omega) ?_
            refine .eql ?_
            refine .pickF (by first | assumption | omega) ?_
            refine .condF (by first | assumption | omega) ?_
            refine .eql ?_
            refine .condF (by first | assumption | omega) ?_
            refine .eql ?_
            refine .gF (by rfl) (by first | assumption | omega) ?_
            refine .gF (by rfl) (by first | assumption | omega) ?_
            refine .gF (by rfl) (by first | assumption | omega) ?_
            refine .eql ?_
            refine .pickF (by first | assumption | omega) ?_
            refine .condF (by first | assumption | omega) ?_
            refine .ret2 (by rfl) ?_; intro m' hobj
            exact ⟨by first | (simp only [orE, if_neg h3, if_neg h4, if_neg h7]; rfl) | simp only [orE, if_neg h3, if_neg h4, if_neg h7], h.objs hobj⟩

/-- The opposite. -/
theorem call53 {K : Nat} (hK : K ≤ 32) : ∀ (f : Nat) {m : Mem} {p t mm : Nat} {ns : List Nd} {fr : Heap} {a : Nat} {ns' : List Nd} {r : Nat}, oppF f ns a = some (ns', r) → a < f → Tb K ns → a < ns.length + 2 → ns.length + cap K (top ns a) < 1099511627776 → Sep m (tab p t mm ns fr) →
    Tells (Am.Call T 53 [.ptr p 0 0, vI a] m) fun x m' => x = vI r ∧ Sep m' (tab p t mm ns' fr) := by
  intro f
  induction f with
  | zero => intro m p t mm ns fr a ns' r h; cases h
  | succ f ih =>
    intro m p t mm ns fr a ns' r hr hf ht ha hb hs
    refine Tells.fn 0 rfl F53_ok rfl ?_
    show Tells (S53 (Am.Call T) 0 m (.ptr p 0 0) (vI a)) _
    have h : Sep ⟨m.objs, none⟩ (tab p t mm ns fr) := hs.objs rfl
    unfold S53 G53
    unfold oppF at hr
    by_cases h2 : a < 2
    · rw [if_pos h2] at hr
      cases hr
      refine .lss ?_
      refine .condT (by first | assumption | omega) ?_
      refine .sub (c := ((1 - a : Nat) : Int)) (by omega) (by omega) ?_
      refine .ret1 (by rfl) ?_
      intro m hobj
      exact ⟨rfl, h.objs hobj⟩
    · rw [if_neg h2] at hr
      obtain ⟨n, hn⟩ := ht.wf.at (by omega) ha
      have e1 := hn.lo
      have e2 := hn.hi
      have hg := hn.get
      have htop := hn.tp
      have v1 := hn.vlo
      have v2 := hn.vhi
      have hvk := ht.top_lt hn
      have c4 := cap_two (K := K) (t := n.v) (a := top ns n.lo) (b := top ns n.hi) hvk v1 v2
      simp only [hg] at hr
      obtain ⟨ns1, lo, p1, p2⟩ := opp_spec f (show n.lo < f by omega) ht (by omega)
      have p3 := pre_len p2.pre
      have p4 := p2.cnt
      rw [p1] at hr; simp only at hr
      have t1 : top ns1 n.hi = top ns n.hi := top_pre p2.pre (by omega)
      obtain ⟨ns2, hi, q1, q2⟩ := opp_spec f (show n.hi < f by omega) p2.tb (by omega)
      have q4 := q2.cnt
      rw [t1] at q4
      rw [htop] at hb
      rw [q1] at hr; simp only at hr
      cases hr
      refine .lss ?_
      refine .condF (by first | assumption | omega) ?_
      refine .nilP ?_
      refine .fieldAddr ?_
      refine .load1 ‹_› .z (by rfl) ?_
      refine .sub (by rfl) (by omega) ?_
      refine .indexL (j := a - 2) (by omega) (by rw [List.getElem?_map, hg]; rfl) ?_
      refine .loadCA (by rfl) ?_
      refine .new ‹_› ?_
      intro nw m h
      refine .storeA ‹_› .z (by rfl) (by rfl) ?_
      intro m h
      refine .fieldAddr ?_
      refine .load1 ‹_› .z (by rfl) ?_
      refine Tells.call rfl (ih (fr := _ :: fr) p1 (by omega) ht (by omega) (by omega) (h.perm (List.perm_middle (l₁ := [_, _, _])).symm)) ?_
      rintro _ m1 ⟨rfl, h1⟩
      refine .fieldAddr ?_
      refine .load1 ‹_› (.s (.s (.s .z))) (by rfl) ?_
      refine .fieldAddr ?_
      refine .load1 ‹_› (.s (.s (.s .z))) (by rfl) ?_
      refine Tells.call rfl (ih (fr := _ :: fr) q1 (by omega) p2.tb (by omega) (by rw [t1]; omega) h1) ?_
      rintro _ m2 ⟨rfl, h2⟩
      refine .build3 ?_
      refine Tells.call rfl (call50 h2 (n := ⟨n.v, lo, hi⟩) (by omega)) ?_
      rintro _ m3 ⟨rfl, h3⟩
      refine .stay (by first | exact stayK_nil | (repeat first | exact stayK_nil | refine stayK_cons ?_ ?_ | refine stayK_not ?_ | exact stayN_zero | refine stayN_succ (by rfl) (by first | exact Sep.load1 ‹_› (by first | exact .z | exact .s .z | exact .s (.s .z) | exact .s (.s (.s .z)) | exact .s (.s (.s (.s .z))) | exact .s (.s (.s (.s (.s .z)))) | exact .s (.s (.s (.s (.s (.s .z))))) | exact .s (.s (.s (.s (.s (.s (.s .z)))))) | exact .s (.s (.s (.s (.s (.s (.s (.s .z))))))) | exact .s (.s (.s (.s (.s (.s (.s (.s (.s .z)))))))) | exact .s (.s (.s (.s (.s (.s (.s (.s (.s (.s .z))))))))) | exact .s (.s (.s (.s (.s (.s (.s (.s (.s (.s (.s .z)))))))))) | exact .s (.s (.s (.s (.s (.s (.s (.s (.s (.s (.s (.s .z))))))))))) | exact .s (.s (.s (.s (.s (.s (.s (.s (.s (.s (.s (.s (.s .z))))))))))))) (by rfl) | exact Sep.loadA ‹_› (by first | exact .z | exact .s .z | exact .s (.s .z) | exact .s (.s (.s .z)) | exact .s (.s (.s (.s .z))) | exact .s (.s (.s (.s (.s .z)))) | exact .s (.s (.s (.s (.s (.s .z))))) | exact .s (.s (.s (.s (.s (.s (.s .z)))))) | exact .s (.s (.s (.s (.s (.s (.s (.s .z))))))) | exact .s (.s (.s (.s (.s (.s (.s (.s (.s .z)))))))) | exact .s (.s (.s (.s (.s (.s (.s (.s (.s (.s .z))))))))) | exact .s (.s (.s (.s (.s (.s (.s (.s (.s (.s (.s .z)))))))))) | exact .s (.s (.s (.s (.s (.s (.s (.s (.s (.s (.s (.s .z))))))))))) | exact .s (.s (.s (.s (.s (.s (.s (.s (.s (.s (.s (.s (.s .z))))))))))))) (by rfl) | rfl) ?_)) ?_
      refine .ret1 (by rfl) ?_
      intro m hobj
      exact ⟨rfl, ((h3.objs hobj).perm (List.perm_middle (l₁ := [_, _, _]))).tail⟩

/-- A variable as it is told. -/
theorem call60 {K v : Nat} {is : Bool} (hv : v < far) : ∀ (f : Nat) {m : Mem} {p t mm : Nat} {ns : List Nd} {fr : Heap} {a : Nat} {ns' : List Nd} {r : Nat}, withF v is f ns a = some (ns', r) → a < f → Tb K ns → a < ns.length + 2 → ns.length + cap K (top ns a) < 1099511627776 → Sep m (tab p t mm ns fr) →
    Tells (Am.Call T 60 [.ptr p 0 0, vI a, vI v, .bool is] m) fun x m' => x = vI r ∧ Sep m' (tab p t mm ns' fr) := by
  intro f
  induction f with
  | zero => intro m p t mm ns fr a ns' r h; cases h
  | succ f ih =>
    intro m p t mm ns fr a ns' r hr hf ht ha hb hs
    refine Tells.fn 0 rfl F60_ok rfl ?_
    show Tells (S60 (Am.Call T) 0 m (.ptr p 0 0) (vI a) (vI v) (.bool is)) _
    have h : Sep ⟨m.objs, none⟩ (tab p t mm ns fr) := hs.objs rfl
    unfold S60 G60
    unfold withF at hr
    refine Tells.call rfl (call76 h ha (by omega)) ?_
    rintro _ m1 ⟨rfl, h1⟩
    by_cases h2 : v < top ns a
    · rw [if_pos h2] at hr
      cases hr
      refine .gtr ?_
      refine .condT (by first | assumption | omega) ?_
      refine .ret1 (by rfl) ?_
      intro m hobj
      exact ⟨rfl, h1.objs hobj⟩
    · rw [if_neg h2] at hr
      have ha2 : ¬ a < 2 := fun h0 => h2 (by rw [top_const h0]; exact hv)
      obtain ⟨n, hn⟩ := ht.wf.at (by omega) ha
      have e1 := hn.lo
      have e2 := hn.hi
      have hg := hn.get
      have htop := hn.tp
      have v1 := hn.vlo
      have v2 := hn.vhi
      have hvk := ht.top_lt hn
      have c4 := cap_two (K := K) (t := n.v) (a := top ns n.lo) (b := top ns n.hi) hvk v1 v2
      simp only [hg] at hr
      by_cases h8 : n.v = v
      · rw [if_pos h8] at hr
        cases hr
        cases is
        · refine .gtr ?_
          refine .condF (by first | assumption | omega) ?_
          refine .nilP ?_
          refine .fieldAddr ?_
          refine .load1 ‹_› .z (by rfl) ?_
          refine .sub (by rfl) (by omega) ?_
          refine .indexL (j := a - 2) (by omega) (by rw [List.getElem?_map, hg]; rfl) ?_
          refine .loadCA (by rfl) ?_
          refine .new ‹_› ?_
          intro nw m h
          refine .storeA ‹_› .z (by rfl) (by rfl) ?_
          intro m h
          refine .fieldAddr ?_
          refine .load1 ‹_› .z (by rfl) ?_
          refine .eql ?_
          refine .condT (by first | assumption | omega) ?_
          refine .condff ?_
          refine .fieldAddr ?_
          refine .load1 ‹_› .z (by rfl) ?_
          refine .ret1 (by rfl) ?_
          intro m hobj
          exact ⟨rfl, (h.objs hobj).tail⟩
        · refine .gtr ?_
          refine .condF (by first | assumption | omega) ?_
          refine .nilP ?_
          refine .fieldAddr ?_
          refine .load1 ‹_› .z (by rfl) ?_
          refine .sub (by rfl) (by omega) ?_
          refine .indexL (j := a - 2) (by omega) (by rw [List.getElem?_map, hg]; rfl) ?_
          refine .loadCA (by rfl) ?_
          refine .new ‹_› ?_
          intro nw m h
          refine .storeA ‹_› .z (by rfl) (by rfl) ?_
          intro m h
          refine .fieldAddr ?_
          refine .load1 ‹_› .z (by rfl) ?_
          refine .eql ?_
          refine .condT (by first | assumption | omega) ?_
          refine .condtt ?_
          refine .fieldAddr ?_
          refine .load1 ‹_› .z (by rfl) ?_
          refine .ret1 (by rfl) ?_
          intro m hobj
          exact ⟨rfl, (h.objs hobj).tail⟩
      · rw [if_neg h8] at hr
        obtain ⟨ns1, lo, p1, p2⟩ := with_spec (is := is) hv f (show n.lo < f by omega) ht (by omega)
        have p3 := pre_len p2.pre
        have p4 := p2.cnt
        rw [p1] at hr; simp only at hr
        have t1 : top ns1 n.hi = top ns n.hi := top_pre p2.pre (by omega)
        obtain ⟨ns2, hi, q1, q2⟩ := with_spec (is := is) hv f (show n.hi < f by omega) p2.tb (by omega)
        have q4 := q2.cnt
        rw [t1] at q4
        rw [htop] at hb
        rw [q1] at hr; simp only at hr
        cases hr
        refine .gtr ?_
        refine .condF (by first | assumption | omega) ?_
        refine .nilP ?_
        refine .fieldAddr ?_
        refine .load1 ‹_› .z (by rfl) ?_
        refine .sub (by rfl) (by omega) ?_
        refine .indexL (j := a - 2) (by omega) (by rw [List.getElem?_map, hg]; rfl) ?_
        refine .loadCA (by rfl) ?_
        refine .new ‹_› ?_
        intro nw m h
        refine .storeA ‹_› .z (by rfl) (by rfl) ?_
        intro m h
        refine .fieldAddr ?_
        refine .load1 ‹_› .z (by rfl) ?_
        refine .eql ?_
        refine .condF (by first | assumption | omega) ?_
        refine .fieldAddr ?_
        refine .load1 ‹_› .z (by rfl) ?_
        refine Tells.call rfl (ih (fr := _ :: fr) p1 (by omega) ht (by omega) (by omega) (h.perm (List.perm_middle (l₁ := [_, _, _])).symm)) ?_
        rintro _ m1 ⟨rfl, h1⟩
        refine .fieldAddr ?_
        refine .load1 ‹_› (.s (.s (.s .z))) (by rfl) ?_
        refine .fieldAddr ?_
        refine .load1 ‹_› (.s (.s (.s .z))) (by rfl) ?_
        refine Tells.call rfl (ih (fr := _ :: fr) q1 (by omega) p2.tb (by omega) (by rw [t1]; omega) h1) ?_
        rintro _ m2 ⟨rfl, h2⟩
        refine .build3 ?_
        refine Tells.call rfl (call50 h2 (n := ⟨n.v, lo, hi⟩) (by omega)) ?_
        rintro _ m3 ⟨rfl, h3⟩
        refine .stay (by first | exact stayK_nil | (repeat first | exact stayK_nil | refine stayK_cons ?_ ?_ | refine stayK_not ?_ | exact stayN_zero | refine stayN_succ (by rfl) (by first | exact Sep.load1 ‹_› (by first | exact .z | exact .s .z | exact .s (.s .z) | exact .s (.s (.s .z)) | exact .s (.s (.s (.s .z))) | exact .s (.s (.s (.s (.s .z)))) | exact .s (.s (.s (.s (.s (.s .z))))) | exact .s (.s (.s (.s (.s (.s (.s .z)))))) | exact .s (.s (.s (.s (.s (.s (.s (.s .z))))))) | exact .s (.s (.s (.s (.s (.s (.s (.s (.s .z)))))))) | exact .s (.s (.s (.s (.s (.s (.s (.s (.s (.s .z))))))))) | exact .s (.s (.s (.s (.s (.s (.s (.s (.s (.s (.s .z)))))))))) | exact .s (.s (.s (.s (.s (.s (.s (.s (.s (.s (.s (.s .z))))))))))) | exact .s (.s (.s (.s (.s (.s (.s (.s (.s (.s (.s (.s (.s .z))))))))))))) (by rfl) | exact Sep.loadA ‹_› (by first | exact .z | exact .s .z | exact .s (.s .z) | exact .s (.s (.s .z)) | exact .s (.s (.s (.s .z))) | exact .s (.s (.s (.s (.s .z)))) | exact .s (.s (.s (.s (.s (.s .z))))) | exact .s (.s (.s (.s (.s (.s (.s .z)))))) | exact .s (.s (.s (.s (.s (.s (.s (.s .z))))))) | exact .s (.s (.s (.s (.s (.s (.s (.s (.s .z)))))))) | exact .s (.s (.s (.s (.s (.s (.s (.s (.s (.s .z))))))))) | exact .s (.s (.s (.s (.s (.s (.s (.s (.s (.s (.s .z)))))))))) | exact .s (.s (.s (.s (.s (.s (.s (.s (.s (.s (.s (.s .z))))))))))) | exact .s (.s (.s (.s (.s (.s (.s (.s (.s (.s (.s (.s (.s .z))))))))))))) (by rfl) | rfl) ?_)) ?_
        refine .ret1 (by rfl) ?_
        intro m hobj
        exact ⟨rfl, ((h3.objs hobj).perm (List.perm_middle (l₁ := [_, _, _]))).tail⟩

end Go.Proofs.P16
