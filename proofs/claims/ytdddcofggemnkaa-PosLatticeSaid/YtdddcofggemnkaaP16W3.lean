/- The walk through the tables of nodes: two places at once. -/
import Derived.Test.YtdddcofggemnkaaP16W2
namespace Go.Proofs.P16
set_option linter.all false
open Go Go.Am Go.Bdd
attribute [local irreducible] loadK storeK newK boxK tipK makeMapK buildTK buildK buildSliceK nilK binK unK condK convK eqvK pickK gK gDK vK extractK fieldK lookupK mapUpdateK appendK min2K max2K retK makeSliceK freezeK bytesK loopV blkK stayK sameK rangeK callK aFieldAddr aIndexAddr aIndexAddrA aLen aIndex aSlice

def dnEs (dn : List ((Nat × Nat) × Nat)) : List (AV × AV) := dn.map fun x => (encP x.1, vI x.2)
/-- What the two at once know. -/
abbrev bh (p t mm eb db d tb vb ef : Nat) (ns : List Nd) (dn : List ((Nat × Nat) × Nat)) (fr : Heap) : Heap :=
  tab p t mm ns ((d, .map (dnEs dn)) :: (eb, .row 0 [.func ef [] []]) :: (db, .row 0 [.map d]) :: (tb, .row 0 [.ptr p 0 0]) :: (vb, .row 0 [.func 75 [] [.ptr eb 0 0, .ptr db 0 0, .ptr tb 0 0, .ptr vb 0 0]]) :: fr)

def EndFn (ef : Nat) (en : Nat → Nat → Option Nat) : Prop := ∀ (m : Mem) (l : Heap) (a b : Nat), Sep m l → Tells (Am.Call T ef [vI a, vI b] m) fun r m' => r = encE (en a b) ∧ Sep m' l

theorem lookN_self {κ β : Type} [DecidableEq κ] {k : κ} {b : β} {es : List (κ × β)} : lookN k (aputN k b es) = some b := by rw [lookN_aputN, if_pos rfl]

theorem call75 {K ef : Nat} {en : Nat → Nat → Option Nat} {op : Bool → Bool → Bool} (he : EndOk en op) (hen : EndFn ef en) {p t mm eb db d tb vb : Nat} : ∀ (f : Nat) {fr : Heap} {m : Mem} {ns : List Nd} {dn : List ((Nat × Nat) × Nat)} {a b : Nat} {ns' : List Nd} {dn' : List ((Nat × Nat) × Nat)} {r : Nat},
    bothF en f ns dn a b = some (ns', dn', r) → a + b < f → Tb K ns → DoneOk ns op dn → a < ns.length + 2 → b < ns.length + 2 → ns.length + cap K (min (top ns a) (top ns b)) < 1099511627776 → Sep m (bh p t mm eb db d tb vb ef ns dn fr) →
    Tells (Am.Call T 75 [vI a, vI b, .ptr eb 0 0, .ptr db 0 0, .ptr tb 0 0, .ptr vb 0 0] m) fun x m' => x = vI r ∧ Sep m' (bh p t mm eb db d tb vb ef ns' dn' fr) := by
  intro f
  induction f with
  | zero => intro fr m ns dn a b ns' dn' r h; cases h
  | succ f ih =>
    intro fr m ns dn a b ns' dn' r hr hf ht hd ha hb hB hs
    refine Tells.fn 0 rfl F75_ok rfl ?_
    show Tells (S75 (Am.Call T) 0 m (vI a) (vI b) (.ptr eb 0 0) (.ptr db 0 0) (.ptr tb 0 0) (.ptr vb 0 0)) _
    have h : Sep ⟨m.objs, none⟩ (bh p t mm eb db d tb vb ef ns dn fr) := hs.objs rfl
    unfold S75 G75
    unfold bothF at hr
    refine .load1 ‹_› (.s (.s (.s (.s .z)))) (by rfl) ?_
    refine Tells.call rfl (hen _ _ a b h) ?_
    rintro _ m1 ⟨rfl, h1⟩
    cases e1 : en a b with
    | some c =>
      rw [e1] at hr
      cases hr
      refine .extract (by rfl) ?_
      refine .extract (by rfl) ?_
      refine .condtt ?_
      refine .ret1 (by rfl) ?_
      intro m hobj
      exact ⟨rfl, h1.objs hobj⟩
    | none =>
      rw [e1] at hr
      obtain ⟨ha2, hb2⟩ := he.no e1
      cases e2 : lookN (a, b) dn with
      | some c =>
        rw [e2] at hr
        cases hr
        have hk : findKey ⟨[.i, .i], true⟩ (encP (a, b)) (dnEs dn) = some (some (vI r)) := by rw [dnEs, findKey_enc eqv_p, e2]; rfl
        refine .extract (by rfl) ?_
        refine .extract (by rfl) ?_
        refine .condff ?_
        refine .build2 ?_
        refine .new ‹_› ?_
        intro nw m h
        refine .storeA ‹_› .z (by rfl) (by rfl) ?_
        intro m h
        refine .load1 ‹_› (.s (.s (.s (.s (.s (.s .z)))))) (by rfl) ?_
        refine .loadA ‹_› .z (by rfl) ?_
        refine .lookup2 ‹_› (.s (.s (.s (.s .z)))) (by rfl) hk ?_
        refine .extract (by rfl) ?_
        refine .extract (by rfl) ?_
        refine .condtt ?_
        refine .ret1 (by rfl) ?_
        intro m hobj
        exact ⟨rfl, (h.objs hobj).tail⟩
      | none =>
        rw [e2] at hr
        have hk : findKey ⟨[.i, .i], true⟩ (encP (a, b)) (dnEs dn) = some none := by rw [dnEs, findKey_enc eqv_p, e2]; rfl
        obtain ⟨na, hna⟩ := ht.wf.at ha2 ha
        obtain ⟨nb, hnb⟩ := ht.wf.at hb2 hb
        have ka := ht.top_lt hna
        have kb := ht.top_lt hnb
        have fa := hna.vf
        have fb := hnb.vf
        have ta := hna.tp
        have tb' := hnb.tp
        simp only at hr
        generalize hv : min (top ns a) (top ns b) = v at hr hB
        have hvk : v < K := by omega
        have hvf : v < far := by omega
        obtain ⟨a1, a2, a3, a4, a5, a6⟩ := waysN_spec ht ha (show v ≤ top ns a by omega) hvk hvf
        obtain ⟨b1, b2, b3, b4, b5, b6⟩ := waysN_spec ht hb (show v ≤ top ns b by omega) hvk hvf
        have hlt : (waysN ns a v).1 + (waysN ns b v).1 < f ∧ (waysN ns a v).2 + (waysN ns b v).2 < f := by
          rcases (show top ns a = v ∨ top ns b = v by omega) with h | h
          · have := a3 h; omega
          · have := b3 h; omega
        obtain ⟨ns1, dn1, lo, p1, p2, p3⟩ := both_spec he f (K := K) hlt.1 ht hd (show (waysN ns a v).1 < ns.length + 2 by omega) (show (waysN ns b v).1 < ns.length + 2 by omega)
        have l1 := pre_len p3.pre
        obtain ⟨ns2, dn2, hi, q1, q2, q3⟩ := both_spec he f (K := K) hlt.2 p3.tb p2 (show (waysN ns a v).2 < ns1.length + 2 by omega) (show (waysN ns b v).2 < ns1.length + 2 by omega)
        rw [p1] at hr; simp only at hr
        rw [q1] at hr; simp only at hr
        cases hr
        have t1 : top ns1 (waysN ns a v).2 = top ns (waysN ns a v).2 := top_pre p3.pre (by omega)
        have t2 : top ns1 (waysN ns b v).2 = top ns (waysN ns b v).2 := top_pre p3.pre (by omega)
        have c1 := p3.cnt
        have c2 := q3.cnt
        rw [t1, t2] at c2
        have c4 := cap_two (K := K) (t := v) (a := min (top ns (waysN ns a v).1) (top ns (waysN ns b v).1)) (b := min (top ns (waysN ns a v).2) (top ns (waysN ns b v).2)) hvk (by omega) (by omega)
        refine .extract (by rfl) ?_
        refine .extract (by rfl) ?_
        refine .condff ?_
        refine .build2 ?_
        refine .new ‹_› ?_
        intro nw m h
        refine .storeA ‹_› .z (by rfl) (by rfl) ?_
        intro m h
        refine .load1 ‹_› (.s (.s (.s (.s (.s (.s .z)))))) (by rfl) ?_
        refine .loadA ‹_› .z (by rfl) ?_
        refine .lookup2n ‹_› (.s (.s (.s (.s .z)))) (by rfl) hk ?_
        refine .extract (by rfl) ?_
        refine .extract (by rfl) ?_
        refine .condff ?_
        refine .load1 ‹_› (.s (.s (.s (.s (.s (.s (.s .z))))))) (by rfl) ?_
        have h2 := h.perm (List.perm_middle (l₁ := [_, _, _, _, _, _, _, _])).symm
        refine Tells.call rfl (call76 h2 ha (by omega)) ?_
        rintro _ m2 ⟨rfl, h2⟩
        refine .load1 ‹_› (.s (.s (.s (.s (.s (.s .z)))))) (by rfl) ?_
        refine Tells.call rfl (call76 h2 hb (by omega)) ?_
        rintro _ m3 ⟨rfl, h3⟩
        refine Tells.min2 (c := (v : Int)) (by omega) ?_
        refine .stay (by first | exact stayK_nil | (repeat first | exact stayK_nil | refine stayK_cons ?_ ?_ | refine stayK_not ?_ | exact stayN_zero | refine stayN_succ (by rfl) (by first | exact Sep.load1 ‹_› (by first | exact .z | exact .s .z | exact .s (.s .z) | exact .s (.s (.s .z)) | exact .s (.s (.s (.s .z))) | exact .s (.s (.s (.s (.s .z)))) | exact .s (.s (.s (.s (.s (.s .z))))) | exact .s (.s (.s (.s (.s (.s (.s .z)))))) | exact .s (.s (.s (.s (.s (.s (.s (.s .z))))))) | exact .s (.s (.s (.s (.s (.s (.s (.s (.s .z)))))))) | exact .s (.s (.s (.s (.s (.s (.s (.s (.s (.s .z))))))))) | exact .s (.s (.s (.s (.s (.s (.s (.s (.s (.s (.s .z)))))))))) | exact .s (.s (.s (.s (.s (.s (.s (.s (.s (.s (.s (.s .z))))))))))) | exact .s (.s (.s (.s (.s (.s (.s (.s (.s (.s (.s (.s (.s .z))))))))))))) (by rfl) | exact Sep.loadA ‹_› (by first | exact .z | exact .s .z | exact .s (.s .z) | exact .s (.s (.s .z)) | exact .s (.s (.s (.s .z))) | exact .s (.s (.s (.s (.s .z)))) | exact .s (.s (.s (.s (.s (.s .z))))) | exact .s (.s (.s (.s (.s (.s (.s .z)))))) | exact .s (.s (.s (.s (.s (.s (.s (.s .z))))))) | exact .s (.s (.s (.s (.s (.s (.s (.s (.s .z)))))))) | exact .s (.s (.s (.s (.s (.s (.s (.s (.s (.s .z))))))))) | exact .s (.s (.s (.s (.s (.s (.s (.s (.s (.s (.s .z)))))))))) | exact .s (.s (.s (.s (.s (.s (.s (.s (.s (.s (.s (.s .z))))))))))) | exact .s (.s (.s (.s (.s (.s (.s (.s (.s (.s (.s (.s (.s .z))))))))))))) (by rfl) | rfl) ?_)) ?_
        refine .load1 ‹_› (.s (.s (.s (.s (.s (.s .z)))))) (by rfl) ?_
        refine Tells.call rfl (call77 h3 ha (by omega) hvf) ?_
        rintro _ m4 ⟨rfl, h4⟩
        refine .extract (by rfl) ?_
        refine .extract (by rfl) ?_
        refine .load1 ‹_› (.s (.s (.s (.s (.s (.s .z)))))) (by rfl) ?_
        refine Tells.call rfl (call77 h4 hb (by omega) hvf) ?_
        rintro _ m5 ⟨rfl, h5⟩
        refine .extract (by rfl) ?_
        refine .extract (by rfl) ?_
        refine .load1 ‹_› (.s (.s (.s (.s (.s (.s (.s .z))))))) (by rfl) ?_
        refine Tells.call rfl (ih (fr := _ :: fr) p1 hlt.1 ht hd (by omega) (by omega) (by omega) h5) ?_
        rintro _ m6 ⟨rfl, h6⟩
        refine .load1 ‹_› (.s (.s (.s (.s (.s .z))))) (by rfl) ?_
        refine .loadA ‹_› (.s (.s (.s (.s (.s (.s (.s (.s .z)))))))) (by rfl) ?_
        refine .load1 ‹_› (.s (.s (.s (.s (.s (.s .z)))))) (by rfl) ?_
        refine .load1 ‹_› (.s (.s (.s (.s (.s (.s (.s .z))))))) (by rfl) ?_
        refine Tells.call rfl (ih (fr := _ :: fr) q1 hlt.2 p3.tb p2 (by omega) (by omega) (by rw [t1, t2]; omega) h6) ?_
        rintro _ m7 ⟨rfl, h7⟩
        refine .build3 ?_
        refine Tells.call rfl (call50 h7 (n := ⟨v, lo, hi⟩) (by omega)) ?_
        rintro _ m8 ⟨rfl, h8⟩
        have hp : putKey ⟨[.i, .i], true⟩ (encP (a, b)) (vI (mkN ns2 ⟨v, lo, hi⟩).1) (dnEs dn2) = some (dnEs (aputN (a, b) (mkN ns2 ⟨v, lo, hi⟩).1 dn2)) := by rw [dnEs, putKey_enc eqv_p]; rfl
        have hk2 : findKey ⟨[.i, .i], true⟩ (encP (a, b)) (dnEs (aputN (a, b) (mkN ns2 ⟨v, lo, hi⟩).1 dn2)) = some (some (vI (mkN ns2 ⟨v, lo, hi⟩).1)) := by rw [dnEs, findKey_enc eqv_p, lookN_self]; rfl
        refine .mapUpdate ‹_› (.s (.s (.s .z))) (by rfl) hp ?_
        intro m h
        refine .stay (by first | exact stayK_nil | (repeat first | exact stayK_nil | refine stayK_cons ?_ ?_ | refine stayK_not ?_ | exact stayN_zero | refine stayN_succ (by rfl) (by first | exact Sep.load1 ‹_› (by first | exact .z | exact .s .z | exact .s (.s .z) | exact .s (.s (.s .z)) | exact .s (.s (.s (.s .z))) | exact .s (.s (.s (.s (.s .z)))) | exact .s (.s (.s (.s (.s (.s .z))))) | exact .s (.s (.s (.s (.s (.s (.s .z)))))) | exact .s (.s (.s (.s (.s (.s (.s (.s .z))))))) | exact .s (.s (.s (.s (.s (.s (.s (.s (.s .z)))))))) | exact .s (.s (.s (.s (.s (.s (.s (.s (.s (.s .z))))))))) | exact .s (.s (.s (.s (.s (.s (.s (.s (.s (.s (.s .z)))))))))) | exact .s (.s (.s (.s (.s (.s (.s (.s (.s (.s (.s (.s .z))))))))))) | exact .s (.s (.s (.s (.s (.s (.s (.s (.s (.s (.s (.s (.s .z))))))))))))) (by rfl) | exact Sep.loadA ‹_› (by first | exact .z | exact .s .z | exact .s (.s .z) | exact .s (.s (.s .z)) | exact .s (.s (.s (.s .z))) | exact .s (.s (.s (.s (.s .z)))) | exact .s (.s (.s (.s (.s (.s .z))))) | exact .s (.s (.s (.s (.s (.s (.s .z)))))) | exact .s (.s (.s (.s (.s (.s (.s (.s .z))))))) | exact .s (.s (.s (.s (.s (.s (.s (.s (.s .z)))))))) | exact .s (.s (.s (.s (.s (.s (.s (.s (.s (.s .z))))))))) | exact .s (.s (.s (.s (.s (.s (.s (.s (.s (.s (.s .z)))))))))) | exact .s (.s (.s (.s (.s (.s (.s (.s (.s (.s (.s (.s .z))))))))))) | exact .s (.s (.s (.s (.s (.s (.s (.s (.s (.s (.s (.s (.s .z))))))))))))) (by rfl) | rfl) ?_)) ?_
        refine .load1 ‹_› (.s (.s (.s (.s (.s .z))))) (by rfl) ?_
        refine .loadA ‹_› (.s (.s (.s (.s (.s (.s (.s (.s .z)))))))) (by rfl) ?_
        refine .lookup1 ‹_› (.s (.s (.s .z))) (by rfl) hk2 ?_
        refine .ret1 (by rfl) ?_
        intro m hobj
        exact ⟨rfl, ((h.objs hobj).perm (List.perm_middle (l₁ := [_, _, _, _, _, _, _, _]))).tail⟩

/-- Two places at once. -/
theorem call47 {K ef : Nat} {en : Nat → Nat → Option Nat} {op : Bool → Bool → Bool} (he : EndOk en op) (hen : EndFn ef en) {p t mm : Nat} {fr : Heap} {m : Mem} {ns : List Nd} {a b : Nat} (ht : Tb K ns) (ha : a < ns.length + 2) (hb : b < ns.length + 2) (hB : ns.length + cap K (min (top ns a) (top ns b)) < 1099511627776) (hs : Sep m (tab p t mm ns fr)) :
    Tells (Am.Call T 47 [.ptr p 0 0, vI a, vI b, .func ef [] []] m) fun x m' => ∃ ns' r, x = vI r ∧ Sep m' (tab p t mm ns' fr) ∧ Made K ns ns' r (fun ρ => op (sem ns a ρ) (sem ns b ρ)) (min (top ns a) (top ns b)) (cap K (min (top ns a) (top ns b))) := by
  refine Tells.fn 0 rfl F47_ok rfl ?_
  show Tells (S47 (Am.Call T) 0 m (.ptr p 0 0) (vI a) (vI b) (.func ef [] [])) _
  have h : Sep ⟨m.objs, none⟩ (tab p t mm ns fr) := hs.objs rfl
  obtain ⟨ns', dn', r, p1, p2, p3⟩ := both_spec he (a + b + 1) (K := K) (dn := []) (by omega) ht (fun x y c h => by cases h) ha hb
  unfold S47 G47
  refine .box1 ‹_› (by rfl) (by rfl) ?_
  intro nw m h
  refine .box1 ‹_› (by rfl) (by rfl) ?_
  intro nw m h
  refine .makeMap ‹_› ?_
  intro nw m h
  refine .new ‹_› ?_
  intro nw m h
  refine .store1 ‹_› .z (by rfl) (by rfl) ?_
  intro m h
  refine .new ‹_› ?_
  intro nw m h
  refine .store1 ‹_› .z (by rfl) (by rfl) ?_
  intro m h
  refine .load1 ‹_› .z (by rfl) ?_
  refine Tells.call rfl (call75 he hen (a + b + 1) p1 (by omega) ht (fun x y c h => by cases h) ha hb hB (h.mvs [0, 4, 2, 4, 4, 7, 7, 7])) ?_
  rintro _ m1 ⟨rfl, h1⟩
  refine .ret1 (by rfl) ?_
  intro m hobj
  exact ⟨ns', r, rfl, ((h1.objs hobj).mvs [2, 2, 2, 7, 7, 7, 7, 7]).tail.tail.tail.tail.tail, p3⟩

theorem and_fn : EndFn 45 andE := fun _ _ _ _ h => call45 h
theorem or_fn : EndFn 52 orE := fun _ _ _ _ h => call52 h
end Go.Proofs.P16
