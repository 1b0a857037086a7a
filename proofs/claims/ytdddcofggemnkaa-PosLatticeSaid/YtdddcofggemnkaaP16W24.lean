/- The walk through PosLattice, behind its open region. -/
import Derived.Test.YtdddcofggemnkaaP16W23
namespace Go.Proofs.P16
set_option linter.all false
open Go Go.Am Go.Bdd
attribute [local irreducible] loadK storeK newK boxK tipK makeMapK buildTK buildK buildSliceK nilK binK unK condK convK eqvK pickK gK gDK vK extractK fieldK lookupK mapUpdateK appendK min2K max2K retK makeSliceK freezeK bytesK loopV blkK stayK sameK rangeK callK aFieldAddr aIndexAddr aIndexAddrA aLen aIndex aSlice

theorem same_of {f g : BF} (hf : Gd 6 f) (hg : Gd 6 g) (h : ∀ ρ, f.sem ρ = g.sem ρ) : f = g := (same_iff hf.toCan hg.toCan).2 h

theorem upd_upd {ρ : Nat → Bool} {v : Nat} {x y : Bool} : upd (upd ρ v x) v y = upd ρ v y := by
  funext w; simp only [upd]; split <;> rfl

attribute [local irreducible] S5_7 S5_8 S5_9

set_option maxHeartbeats 8000000 in
theorem lat7 {n : Nat} {m : Mem} {fr : Heap} {z : Int} {a b d : Nat} {kf_ kg_ ke_ : Nat} {f g e : BF} (hz : 0 ≤ z) (hz5 : z ≤ 5) (gf : Gd 6 f) (kf : kf_ = 3 ∨ f.nodes = []) (gg : Gd 6 g) (kg : kg_ = 3 ∨ g.nodes = []) (ge : Gd 6 e) (ke : ke_ = 3 ∨ e.nodes = [])
    (se : ∀ ρ, e.sem ρ = (f.sem (upd ρ z.toNat false) || f.sem (upd ρ z.toNat true)))
    (h : Sep m ((d, fnO ke_ e) :: (a, fnO kf_ f) :: (b, fnO kg_ g) :: fr)) :
    Tells (S5_7 (Am.Call T) n (asN (Yes f5 .nrm)) (asX (Yes f5)) (.int .i64 z) (.ptr a 0 0) (.ptr b 0 0) (.ptr d 0 0) m) fun _ _ => True := by
  have hzn : ¬ z < 0 := by omega
  have up : ∀ ρ, f.sem ρ = true → e.sem ρ = true := fun ρ hρ => by
    rw [se]
    cases hb : ρ z.toNat with
    | false => rw [show upd ρ z.toNat false = ρ by rw [← hb]; exact upd_id, hρ]; rfl
    | true => rw [show upd ρ z.toNat true = ρ by rw [← hb]; exact upd_id, hρ, Bool.or_true]
  have fix : ∀ ρ (x : Bool), e.sem (upd ρ z.toNat x) = e.sem ρ := fun ρ x => by rw [se, se, upd_upd, upd_upd]
  unfold S5_7 G5_7
  refine .loadA ‹_› (.s .z) (by rfl) ?_
  refine .loadA ‹_› (.s (.s .z)) (by rfl) ?_
  refine Tells.call rfl (call23 (K := 6) (by omega) ⟨_, rfl, kf⟩ ⟨_, rfl, kg⟩ gf gg h) ?_
  rintro _ _ ⟨q1, ⟨_, rfl, kq1⟩, h, gq1, tq1⟩
  have sq1 := tk (by omega) tq1
  skip
  refine Tells.call rfl (call24 (K := 6) (by omega) ⟨_, rfl, kq1⟩ gq1 (by omega) h) ?_
  rintro _ _ ⟨w, ⟨_, rfl, kw⟩, h, gw, tw⟩
  have sw := tk (by omega) tw
  simp only [if_neg hzn, sq1] at sw
  refine .new ‹_› ?_
  intro nw m h
  refine .storeA ‹_› .z (by rfl) (by rfl) ?_
  intro m h
  refine .loadA ‹_› (.s (.s .z)) (by rfl) ?_
  refine .loadA ‹_› (.s .z) (by rfl) ?_
  refine Tells.call rfl (call11 (K := 6) (by omega) ⟨_, rfl, kf⟩ ⟨_, rfl, ke⟩ gf ge h) ?_
  rintro _ _ ⟨q2, ⟨_, rfl, kq2⟩, h, gq2, tq2⟩
  have sq2 := tk (by omega) tq2
  refine .loadA ‹_› (.s (.s .z)) (by rfl) ?_
  refine Tells.call rfl (call22 ⟨_, rfl, kq2⟩ ⟨_, rfl, kf⟩ gq2.len h) ?_
  rintro _ _ ⟨rfl, h⟩
  rw [decide_eq_true (same_of gq2 gf fun ρ => by rw [sq2]; cases hb : f.sem ρ with | false => rfl | true => rw [up ρ hb]; rfl)]
  refine .gDtt ?_
  refine .loadA ‹_› (.s .z) (by rfl) ?_
  refine .gDtt ?_
  refine .gDtt ?_
  refine Tells.call rfl (call24 (K := 6) (by omega) ⟨_, rfl, ke⟩ ge (by omega) h) ?_
  rintro _ _ ⟨q3, ⟨_, rfl, kq3⟩, h, gq3, tq3⟩
  have sq3 := tk (by omega) tq3
  simp only [if_neg hzn, fix, Bool.or_self] at sq3
  refine .gDtt ?_
  refine .loadA ‹_› (.s .z) (by rfl) ?_
  refine .gDtt ?_
  refine Tells.call rfl (call22 ⟨_, rfl, kq3⟩ ⟨_, rfl, ke⟩ gq3.len h) ?_
  rintro _ _ ⟨rfl, h⟩
  rw [decide_eq_true (same_of gq3 ge fun ρ => sq3 ρ)]
  refine .picktt ?_
  refine .gDtt ?_
  refine .loadA ‹_› (.s .z) (by rfl) ?_
  refine .gDtt ?_
  refine .loadA ‹_› .z (by rfl) ?_
  refine .gDtt ?_
  refine Tells.call rfl (call11 (K := 6) (by omega) ⟨_, rfl, ke⟩ ⟨_, rfl, kw⟩ ge gw h) ?_
  rintro _ _ ⟨q4, ⟨_, rfl, kq4⟩, h, gq4, tq4⟩
  have sq4 := tk (by omega) tq4
  refine .gDtt ?_
  refine .loadA ‹_› (.s .z) (by rfl) ?_
  refine .gDtt ?_
  refine Tells.call rfl (call22 ⟨_, rfl, kq4⟩ ⟨_, rfl, ke⟩ gq4.len h) ?_
  rintro _ _ ⟨rfl, h⟩
  rw [decide_eq_true (same_of gq4 ge fun ρ => by rw [sq4, sw, se]; cases f.sem (upd ρ z.toNat false) <;> cases f.sem (upd ρ z.toNat true) <;> simp)]
  refine .picktt ?_
  refine .gDtt ?_
  refine .loadA ‹_› (.s (.s .z)) (by rfl) ?_
  refine .gDtt ?_
  refine .gDtt ?_
  refine Tells.call rfl (call19 (K := 6) (by omega) ⟨_, rfl, kf⟩ gf (by omega) h) ?_
  rintro _ _ ⟨⟨q5, gq5, tq5, rfl⟩, h⟩
  have sq5 := tk (by omega) tq5
  refine .gDtt ?_
  refine .loadA ‹_› (.s (.s .z)) (by rfl) ?_
  refine .gDtt ?_
  refine .gDtt ?_
  refine Tells.call rfl (call25 h) ?_
  rintro _ _ ⟨⟨_, rfl, kv⟩, h⟩
  have gv := gd_varB (K := 6) (by omega) (z := z) (by omega)
  refine .gDtt ?_
  refine Tells.call rfl (call11 (K := 6) (by omega) ⟨_, rfl, kf⟩ ⟨_, rfl, kv⟩ gf gv h) ?_
  rintro _ _ ⟨q6, ⟨_, rfl, kq6⟩, h, gq6, tq6⟩
  have sq6 := tk (by omega) tq6
  refine .gDtt ?_
  refine .loadA ‹_› (.s (.s .z)) (by rfl) ?_
  refine .gDtt ?_
  refine Tells.call rfl (call22 ⟨_, rfl, kq6⟩ ⟨_, rfl, kf⟩ gq6.len h) ?_
  rintro _ _ ⟨rfl, h⟩
  have e56 : q5 = q6 := same_of gq5 gq6 fun ρ => by rw [sq5, sq6, sem_varB]
  have ee : entB f q5 z = decide (q6 = f) := by rw [entB, e56, decide_eq_true hz, Bool.and_true]
  rw [ee]
  refine .gDtt ?_
  refine .eqB ?_
  refine .picktt ?_
  rw [decide_eq_true (rfl : decide (q6 = f) = decide (q6 = f))]
  refine .gDtt ?_
  refine Tells.call rfl (call15 h) ?_
  rintro _ _ ⟨rfl, h⟩
  refine .picktt ?_
  refine .stay (by first | exact stayK_nil | (repeat first | exact stayK_nil | refine stayK_cons ?_ ?_ | refine stayK_not ?_ | exact stayN_zero | refine stayN_succ (by rfl) (by first | exact Sep.load1 ‹_› (by first | exact .z | exact .s .z | exact .s (.s .z) | exact .s (.s (.s .z)) | exact .s (.s (.s (.s .z))) | exact .s (.s (.s (.s (.s .z)))) | exact .s (.s (.s (.s (.s (.s .z))))) | exact .s (.s (.s (.s (.s (.s (.s .z)))))) | exact .s (.s (.s (.s (.s (.s (.s (.s .z))))))) | exact .s (.s (.s (.s (.s (.s (.s (.s (.s .z)))))))) | exact .s (.s (.s (.s (.s (.s (.s (.s (.s (.s .z))))))))) | exact .s (.s (.s (.s (.s (.s (.s (.s (.s (.s (.s .z)))))))))) | exact .s (.s (.s (.s (.s (.s (.s (.s (.s (.s (.s (.s .z))))))))))) | exact .s (.s (.s (.s (.s (.s (.s (.s (.s (.s (.s (.s (.s .z))))))))))))) (by rfl) | exact Sep.loadA ‹_› (by first | exact .z | exact .s .z | exact .s (.s .z) | exact .s (.s (.s .z)) | exact .s (.s (.s (.s .z))) | exact .s (.s (.s (.s (.s .z)))) | exact .s (.s (.s (.s (.s (.s .z))))) | exact .s (.s (.s (.s (.s (.s (.s .z)))))) | exact .s (.s (.s (.s (.s (.s (.s (.s .z))))))) | exact .s (.s (.s (.s (.s (.s (.s (.s (.s .z)))))))) | exact .s (.s (.s (.s (.s (.s (.s (.s (.s (.s .z))))))))) | exact .s (.s (.s (.s (.s (.s (.s (.s (.s (.s (.s .z)))))))))) | exact .s (.s (.s (.s (.s (.s (.s (.s (.s (.s (.s (.s .z))))))))))) | exact .s (.s (.s (.s (.s (.s (.s (.s (.s (.s (.s (.s (.s .z))))))))))))) (by rfl) | rfl) ?_)) ?_
  exact tells_asX ⟨_, rfl, rfl⟩

set_option maxHeartbeats 8000000 in
theorem lat8 {n : Nat} {m : Mem} {fr : Heap} {z : Int} {a b : Nat} {kf_ kg_ : Nat} {f g : BF} (hn : 300 < n) (hz : 0 ≤ z) (hz5 : z ≤ 5) (gf : Gd 6 f) (kf : kf_ = 3 ∨ f.nodes = []) (gg : Gd 6 g) (kg : kg_ = 3 ∨ g.nodes = [])
    (h : Sep m ((a, fnO kf_ f) :: (b, fnO kg_ g) :: fr)) :
    Tells (S5_8 (Am.Call T) n (asN (Yes f5 .nrm)) (asX (Yes f5)) (.int .i64 z) (.ptr a 0 0) (.ptr b 0 0) m) fun _ _ => True := by
  have hzn : ¬ z < 0 := by omega
  unfold S5_8 G5_8
  refine .loadA ‹_› .z (by rfl) ?_
  refine Tells.call rfl (call24 (K := 6) (by omega) ⟨_, rfl, kf⟩ gf (by omega) h) ?_
  rintro _ _ ⟨e, ⟨ke_, rfl, ke⟩, h, ge, te⟩
  have se := tk (by omega) te
  simp only [if_neg hzn] at se
  have fix : ∀ ρ (x : Bool), e.sem (upd ρ z.toNat x) = e.sem ρ := fun ρ x => by rw [se, se, upd_upd, upd_upd]
  refine .new ‹_› ?_
  intro nw m h
  refine .storeA ‹_› .z (by rfl) (by rfl) ?_
  intro m h
  refine .loadA ‹_› .z (by rfl) ?_
  refine Tells.call rfl (call17 ⟨_, rfl, ke⟩ ge.len h) ?_
  rintro xv m1 ⟨H, zs, hx, hzs, h⟩
  have hzl := hzs.len
  have hel := ge.len
  have hno : ∀ y ∈ zs, y ≠ z := fun y hy e1 => by
    obtain ⟨y1, y2⟩ := (hzs.mem y).1 hy
    obtain ⟨ρ, hρ⟩ := (vars_iff ge.toCan _).1 y2
    rw [e1, fix, fix] at hρ
    exact hρ rfl
  refine Tells.loop (fun j vs m => ∃ i : Nat, i + j = zs.length ∧ vs = [.int .i64 z, .ptr a 0 0, .ptr b 0 0, .ptr nw 0 0, xv, vI i] ∧ Sep m (H ++ ((nw, fnO ke_ e) :: (a, fnO kf_ f) :: (b, fnO kg_ g) :: fr))) ?_ (i := zs.length) (by omega) ?_
  · rintro j vs m L2 ⟨i, j1, rfl, h⟩ hL
    unfold S5_5 G5_5
    by_cases hi : i < zs.length
    · obtain ⟨y, hy⟩ : ∃ y, zs[i]? = some y := ⟨_, List.getElem?_eq_getElem hi⟩
      have hyn := hno y (List.mem_of_getElem? hy)
      refine lenV hx ?_
      refine .lss ?_
      refine .condT (by first | assumption | omega) ?_
      refine idxV hx hy ?_; intro id ver hld
      refine hld _ _ h _ _ ?_
      refine .eql ?_
      refine .condF (by first | assumption | omega) ?_
      refine .add (by rfl) (by omega) ?_
      exact hL (j - 1) _ _ (by omega) ⟨i + 1, by omega, rfl, h⟩
    · refine lenV hx ?_
      refine .lss ?_
      refine .condF (by first | assumption | omega) ?_
      refine .blk ?_
      exact lat7 hz hz5 gf kf gg kg ge ke se h.right
  · exact ⟨0, by omega, rfl, h⟩

set_option maxHeartbeats 8000000 in
theorem lat9 {n : Nat} {m : Mem} {fr : Heap} {z : Int} {a b c : Nat} {kf_ kg_ ke_ : Nat} {f g e : BF} (hn : 300 < n) (hz : 0 ≤ z) (hz5 : z ≤ 5) (gf : Gd 6 f) (kf : kf_ = 3 ∨ f.nodes = []) (gg : Gd 6 g) (kg : kg_ = 3 ∨ g.nodes = []) (ge : Gd 6 e) (ke : ke_ = 3 ∨ e.nodes = [])
    (h : Sep m ((a, fnO kf_ f) :: (b, fnO kg_ g) :: (c, fnO ke_ e) :: fr)) :
    Tells (S5_9 (Am.Call T) n (asN (Yes f5 .nrm)) (asX (Yes f5)) (.int .i64 z) (.ptr a 0 0) (.ptr b 0 0) (.ptr c 0 0) m) fun _ _ => True := by
  unfold S5_9 G5_9
  refine .loadA ‹_› .z (by rfl) ?_
  refine .loadA ‹_› .z (by rfl) ?_
  refine .loadA ‹_› (.s .z) (by rfl) ?_
  refine Tells.call rfl (call23 (K := 6) (by omega) ⟨_, rfl, kf⟩ ⟨_, rfl, kg⟩ gf gg h) ?_
  rintro _ _ ⟨q1, ⟨_, rfl, kq1⟩, h, gq1, tq1⟩
  have sq1 := tk (by omega) tq1
  skip
  refine Tells.call rfl (call11 (K := 6) (by omega) ⟨_, rfl, kf⟩ ⟨_, rfl, kq1⟩ gf gq1 h) ?_
  rintro _ _ ⟨q2, ⟨_, rfl, kq2⟩, h, gq2, tq2⟩
  have sq2 := tk (by omega) tq2
  refine .loadA ‹_› .z (by rfl) ?_
  refine Tells.call rfl (call22 ⟨_, rfl, kq2⟩ ⟨_, rfl, kf⟩ gq2.len h) ?_
  rintro _ _ ⟨rfl, h⟩
  rw [decide_eq_true (same_of gq2 gf fun ρ => by rw [sq2, sq1]; cases f.sem ρ <;> cases g.sem ρ <;> rfl)]
  refine .not ?_
  refine .gDff ?_
  refine .loadA ‹_› .z (by rfl) ?_
  refine .gDff ?_
  refine .loadA ‹_› .z (by rfl) ?_
  refine .gDff ?_
  refine .loadA ‹_› (.s .z) (by rfl) ?_
  refine .gDff ?_
  refine Tells.call rfl (call11 (K := 6) (by omega) ⟨_, rfl, kf⟩ ⟨_, rfl, kg⟩ gf gg h) ?_
  rintro _ _ ⟨q3, ⟨_, rfl, kq3⟩, h, gq3, tq3⟩
  have sq3 := tk (by omega) tq3
  refine .gDff ?_
  refine Tells.call rfl (call23 (K := 6) (by omega) ⟨_, rfl, kf⟩ ⟨_, rfl, kq3⟩ gf gq3 h) ?_
  rintro _ _ ⟨q4, ⟨_, rfl, kq4⟩, h, gq4, tq4⟩
  have sq4 := tk (by omega) tq4
  refine .gDff ?_
  refine .loadA ‹_› .z (by rfl) ?_
  refine .gDff ?_
  refine Tells.call rfl (call22 ⟨_, rfl, kq4⟩ ⟨_, rfl, kf⟩ gq4.len h) ?_
  rintro _ _ ⟨rfl, h⟩
  rw [decide_eq_true (same_of gq4 gf fun ρ => by rw [sq4, sq3]; cases f.sem ρ <;> cases g.sem ρ <;> rfl)]
  refine .gDff ?_
  refine .not ?_
  refine .pickff ?_
  refine .gDff ?_
  refine .loadA ‹_› .z (by rfl) ?_
  refine .gDff ?_
  refine .loadA ‹_› (.s .z) (by rfl) ?_
  refine .gDff ?_
  refine .loadA ‹_› (.s (.s .z)) (by rfl) ?_
  refine .gDff ?_
  refine Tells.call rfl (call23 (K := 6) (by omega) ⟨_, rfl, kg⟩ ⟨_, rfl, ke⟩ gg ge h) ?_
  rintro _ _ ⟨q5, ⟨_, rfl, kq5⟩, h, gq5, tq5⟩
  have sq5 := tk (by omega) tq5
  refine .gDff ?_
  refine Tells.call rfl (call11 (K := 6) (by omega) ⟨_, rfl, kf⟩ ⟨_, rfl, kq5⟩ gf gq5 h) ?_
  rintro _ _ ⟨q6, ⟨_, rfl, kq6⟩, h, gq6, tq6⟩
  have sq6 := tk (by omega) tq6
  refine .gDff ?_
  refine .loadA ‹_› .z (by rfl) ?_
  refine .gDff ?_
  refine .loadA ‹_› (.s .z) (by rfl) ?_
  refine .gDff ?_
  refine Tells.call rfl (call11 (K := 6) (by omega) ⟨_, rfl, kf⟩ ⟨_, rfl, kg⟩ gf gg h) ?_
  rintro _ _ ⟨q7, ⟨_, rfl, kq7⟩, h, gq7, tq7⟩
  have sq7 := tk (by omega) tq7
  refine .gDff ?_
  refine .loadA ‹_› .z (by rfl) ?_
  refine .gDff ?_
  refine .loadA ‹_› (.s (.s .z)) (by rfl) ?_
  refine .gDff ?_
  refine Tells.call rfl (call11 (K := 6) (by omega) ⟨_, rfl, kf⟩ ⟨_, rfl, ke⟩ gf ge h) ?_
  rintro _ _ ⟨q8, ⟨_, rfl, kq8⟩, h, gq8, tq8⟩
  have sq8 := tk (by omega) tq8
  refine .gDff ?_
  refine Tells.call rfl (call23 (K := 6) (by omega) ⟨_, rfl, kq7⟩ ⟨_, rfl, kq8⟩ gq7 gq8 h) ?_
  rintro _ _ ⟨q9, ⟨_, rfl, kq9⟩, h, gq9, tq9⟩
  have sq9 := tk (by omega) tq9
  refine .gDff ?_
  refine Tells.call rfl (call22 ⟨_, rfl, kq6⟩ ⟨_, rfl, kq9⟩ gq6.len h) ?_
  rintro _ _ ⟨rfl, h⟩
  rw [decide_eq_true (same_of gq6 gq9 fun ρ => by rw [sq6, sq5, sq9, sq7, sq8]; cases f.sem ρ <;> cases g.sem ρ <;> cases e.sem ρ <;> rfl)]
  refine .gDff ?_
  refine .not ?_
  refine .pickff ?_
  refine .gDff ?_
  refine .loadA ‹_› .z (by rfl) ?_
  refine .gDff ?_
  refine .loadA ‹_› .z (by rfl) ?_
  refine .gDff ?_
  refine Tells.call rfl (call11 (K := 6) (by omega) ⟨_, rfl, kf⟩ ⟨_, rfl, kf⟩ gf gf h) ?_
  rintro _ _ ⟨q10, ⟨_, rfl, kq10⟩, h, gq10, tq10⟩
  have sq10 := tk (by omega) tq10
  refine .gDff ?_
  refine .loadA ‹_› .z (by rfl) ?_
  refine .gDff ?_
  refine Tells.call rfl (call22 ⟨_, rfl, kq10⟩ ⟨_, rfl, kf⟩ gq10.len h) ?_
  rintro _ _ ⟨rfl, h⟩
  rw [decide_eq_true (same_of gq10 gf fun ρ => by rw [sq10, Bool.and_self])]
  refine .gDff ?_
  refine .not ?_
  refine .pickff ?_
  refine .stay (by first | exact stayK_nil | (repeat first | exact stayK_nil | refine stayK_cons ?_ ?_ | refine stayK_not ?_ | exact stayN_zero | refine stayN_succ (by rfl) (by first | exact Sep.load1 ‹_› (by first | exact .z | exact .s .z | exact .s (.s .z) | exact .s (.s (.s .z)) | exact .s (.s (.s (.s .z))) | exact .s (.s (.s (.s (.s .z)))) | exact .s (.s (.s (.s (.s (.s .z))))) | exact .s (.s (.s (.s (.s (.s (.s .z)))))) | exact .s (.s (.s (.s (.s (.s (.s (.s .z))))))) | exact .s (.s (.s (.s (.s (.s (.s (.s (.s .z)))))))) | exact .s (.s (.s (.s (.s (.s (.s (.s (.s (.s .z))))))))) | exact .s (.s (.s (.s (.s (.s (.s (.s (.s (.s (.s .z)))))))))) | exact .s (.s (.s (.s (.s (.s (.s (.s (.s (.s (.s (.s .z))))))))))) | exact .s (.s (.s (.s (.s (.s (.s (.s (.s (.s (.s (.s (.s .z))))))))))))) (by rfl) | exact Sep.loadA ‹_› (by first | exact .z | exact .s .z | exact .s (.s .z) | exact .s (.s (.s .z)) | exact .s (.s (.s (.s .z))) | exact .s (.s (.s (.s (.s .z)))) | exact .s (.s (.s (.s (.s (.s .z))))) | exact .s (.s (.s (.s (.s (.s (.s .z)))))) | exact .s (.s (.s (.s (.s (.s (.s (.s .z))))))) | exact .s (.s (.s (.s (.s (.s (.s (.s (.s .z)))))))) | exact .s (.s (.s (.s (.s (.s (.s (.s (.s (.s .z))))))))) | exact .s (.s (.s (.s (.s (.s (.s (.s (.s (.s (.s .z)))))))))) | exact .s (.s (.s (.s (.s (.s (.s (.s (.s (.s (.s (.s .z))))))))))) | exact .s (.s (.s (.s (.s (.s (.s (.s (.s (.s (.s (.s (.s .z))))))))))))) (by rfl) | rfl) ?_)) ?_
  refine .condff ?_
  exact lat8 hn hz hz5 gf kf gg kg h

set_option maxHeartbeats 8000000 in
theorem lat10 {n : Nat} {m : Mem} {fr : Heap} {z : Int} {a b c : Nat} {kf_ kg_ ke_ : Nat} {f g e : BF} (hn : 300 < n) (hz : 0 ≤ z) (hz5 : z ≤ 5) (gf : Gd 6 f) (kf : kf_ = 3 ∨ f.nodes = []) (gg : Gd 6 g) (kg : kg_ = 3 ∨ g.nodes = []) (ge : Gd 6 e) (ke : ke_ = 3 ∨ e.nodes = [])
    (h : Sep m ((a, fnO kf_ f) :: (b, fnO kg_ g) :: (c, fnO ke_ e) :: fr)) :
    Tells (S5_10 (Am.Call T) n (asN (Yes f5 .nrm)) (asX (Yes f5)) (.int .i64 z) (.ptr a 0 0) (.ptr b 0 0) (.ptr c 0 0) m) fun _ _ => True := by
  unfold S5_10 G5_10
  refine .loadA ‹_› .z (by rfl) ?_
  refine .loadA ‹_› (.s .z) (by rfl) ?_
  refine Tells.call rfl (call11 (K := 6) (by omega) ⟨_, rfl, kf⟩ ⟨_, rfl, kg⟩ gf gg h) ?_
  rintro _ _ ⟨q1, ⟨_, rfl, kq1⟩, h, gq1, tq1⟩
  have sq1 := tk (by omega) tq1
  refine .loadA ‹_› (.s .z) (by rfl) ?_
  refine .loadA ‹_› .z (by rfl) ?_
  refine Tells.call rfl (call11 (K := 6) (by omega) ⟨_, rfl, kg⟩ ⟨_, rfl, kf⟩ gg gf h) ?_
  rintro _ _ ⟨q2, ⟨_, rfl, kq2⟩, h, gq2, tq2⟩
  have sq2 := tk (by omega) tq2
  skip
  refine Tells.call rfl (call22 ⟨_, rfl, kq1⟩ ⟨_, rfl, kq2⟩ gq1.len h) ?_
  rintro _ _ ⟨rfl, h⟩
  rw [decide_eq_true (same_of gq1 gq2 fun ρ => by rw [sq1, sq2, Bool.and_comm])]
  refine .not ?_
  refine .gDff ?_
  refine .loadA ‹_› .z (by rfl) ?_
  refine .gDff ?_
  refine .loadA ‹_› (.s .z) (by rfl) ?_
  refine .gDff ?_
  refine Tells.call rfl (call23 (K := 6) (by omega) ⟨_, rfl, kf⟩ ⟨_, rfl, kg⟩ gf gg h) ?_
  rintro _ _ ⟨q3, ⟨_, rfl, kq3⟩, h, gq3, tq3⟩
  have sq3 := tk (by omega) tq3
  refine .gDff ?_
  refine .loadA ‹_› (.s .z) (by rfl) ?_
  refine .gDff ?_
  refine .loadA ‹_› .z (by rfl) ?_
  refine .gDff ?_
  refine Tells.call rfl (call23 (K := 6) (by omega) ⟨_, rfl, kg⟩ ⟨_, rfl, kf⟩ gg gf h) ?_
  rintro _ _ ⟨q4, ⟨_, rfl, kq4⟩, h, gq4, tq4⟩
  have sq4 := tk (by omega) tq4
  refine .gDff ?_
  refine Tells.call rfl (call22 ⟨_, rfl, kq3⟩ ⟨_, rfl, kq4⟩ gq3.len h) ?_
  rintro _ _ ⟨rfl, h⟩
  rw [decide_eq_true (same_of gq3 gq4 fun ρ => by rw [sq3, sq4, Bool.or_comm])]
  refine .gDff ?_
  refine .not ?_
  refine .pickff ?_
  refine .gDff ?_
  refine .loadA ‹_› .z (by rfl) ?_
  refine .gDff ?_
  refine .loadA ‹_› (.s .z) (by rfl) ?_
  refine .gDff ?_
  refine Tells.call rfl (call11 (K := 6) (by omega) ⟨_, rfl, kf⟩ ⟨_, rfl, kg⟩ gf gg h) ?_
  rintro _ _ ⟨q5, ⟨_, rfl, kq5⟩, h, gq5, tq5⟩
  have sq5 := tk (by omega) tq5
  refine .gDff ?_
  refine .loadA ‹_› (.s (.s .z)) (by rfl) ?_
  refine .gDff ?_
  refine Tells.call rfl (call11 (K := 6) (by omega) ⟨_, rfl, kq5⟩ ⟨_, rfl, ke⟩ gq5 ge h) ?_
  rintro _ _ ⟨q6, ⟨_, rfl, kq6⟩, h, gq6, tq6⟩
  have sq6 := tk (by omega) tq6
  refine .gDff ?_
  refine .loadA ‹_› .z (by rfl) ?_
  refine .gDff ?_
  refine .loadA ‹_› (.s .z) (by rfl) ?_
  refine .gDff ?_
  refine .loadA ‹_› (.s (.s .z)) (by rfl) ?_
  refine .gDff ?_
  refine Tells.call rfl (call11 (K := 6) (by omega) ⟨_, rfl, kg⟩ ⟨_, rfl, ke⟩ gg ge h) ?_
  rintro _ _ ⟨q7, ⟨_, rfl, kq7⟩, h, gq7, tq7⟩
  have sq7 := tk (by omega) tq7
  refine .gDff ?_
  refine Tells.call rfl (call11 (K := 6) (by omega) ⟨_, rfl, kf⟩ ⟨_, rfl, kq7⟩ gf gq7 h) ?_
  rintro _ _ ⟨q8, ⟨_, rfl, kq8⟩, h, gq8, tq8⟩
  have sq8 := tk (by omega) tq8
  refine .gDff ?_
  refine Tells.call rfl (call22 ⟨_, rfl, kq6⟩ ⟨_, rfl, kq8⟩ gq6.len h) ?_
  rintro _ _ ⟨rfl, h⟩
  rw [decide_eq_true (same_of gq6 gq8 fun ρ => by rw [sq6, sq5, sq8, sq7, Bool.and_assoc])]
  refine .gDff ?_
  refine .not ?_
  refine .pickff ?_
  refine .gDff ?_
  refine .loadA ‹_› .z (by rfl) ?_
  refine .gDff ?_
  refine .loadA ‹_› (.s .z) (by rfl) ?_
  refine .gDff ?_
  refine Tells.call rfl (call23 (K := 6) (by omega) ⟨_, rfl, kf⟩ ⟨_, rfl, kg⟩ gf gg h) ?_
  rintro _ _ ⟨q9, ⟨_, rfl, kq9⟩, h, gq9, tq9⟩
  have sq9 := tk (by omega) tq9
  refine .gDff ?_
  refine .loadA ‹_› (.s (.s .z)) (by rfl) ?_
  refine .gDff ?_
  refine Tells.call rfl (call23 (K := 6) (by omega) ⟨_, rfl, kq9⟩ ⟨_, rfl, ke⟩ gq9 ge h) ?_
  rintro _ _ ⟨q10, ⟨_, rfl, kq10⟩, h, gq10, tq10⟩
  have sq10 := tk (by omega) tq10
  refine .gDff ?_
  refine .loadA ‹_› .z (by rfl) ?_
  refine .gDff ?_
  refine .loadA ‹_› (.s .z) (by rfl) ?_
  refine .gDff ?_
  refine .loadA ‹_› (.s (.s .z)) (by rfl) ?_
  refine .gDff ?_
  refine Tells.call rfl (call23 (K := 6) (by omega) ⟨_, rfl, kg⟩ ⟨_, rfl, ke⟩ gg ge h) ?_
  rintro _ _ ⟨q11, ⟨_, rfl, kq11⟩, h, gq11, tq11⟩
  have sq11 := tk (by omega) tq11
  refine .gDff ?_
  refine Tells.call rfl (call23 (K := 6) (by omega) ⟨_, rfl, kf⟩ ⟨_, rfl, kq11⟩ gf gq11 h) ?_
  rintro _ _ ⟨q12, ⟨_, rfl, kq12⟩, h, gq12, tq12⟩
  have sq12 := tk (by omega) tq12
  refine .gDff ?_
  refine Tells.call rfl (call22 ⟨_, rfl, kq10⟩ ⟨_, rfl, kq12⟩ gq10.len h) ?_
  rintro _ _ ⟨rfl, h⟩
  rw [decide_eq_true (same_of gq10 gq12 fun ρ => by rw [sq10, sq9, sq12, sq11, Bool.or_assoc])]
  refine .gDff ?_
  refine .not ?_
  refine .pickff ?_
  refine .stay (by first | exact stayK_nil | (repeat first | exact stayK_nil | refine stayK_cons ?_ ?_ | refine stayK_not ?_ | exact stayN_zero | refine stayN_succ (by rfl) (by first | exact Sep.load1 ‹_› (by first | exact .z | exact .s .z | exact .s (.s .z) | exact .s (.s (.s .z)) | exact .s (.s (.s (.s .z))) | exact .s (.s (.s (.s (.s .z)))) | exact .s (.s (.s (.s (.s (.s .z))))) | exact .s (.s (.s (.s (.s (.s (.s .z)))))) | exact .s (.s (.s (.s (.s (.s (.s (.s .z))))))) | exact .s (.s (.s (.s (.s (.s (.s (.s (.s .z)))))))) | exact .s (.s (.s (.s (.s (.s (.s (.s (.s (.s .z))))))))) | exact .s (.s (.s (.s (.s (.s (.s (.s (.s (.s (.s .z)))))))))) | exact .s (.s (.s (.s (.s (.s (.s (.s (.s (.s (.s (.s .z))))))))))) | exact .s (.s (.s (.s (.s (.s (.s (.s (.s (.s (.s (.s (.s .z))))))))))))) (by rfl) | exact Sep.loadA ‹_› (by first | exact .z | exact .s .z | exact .s (.s .z) | exact .s (.s (.s .z)) | exact .s (.s (.s (.s .z))) | exact .s (.s (.s (.s (.s .z)))) | exact .s (.s (.s (.s (.s (.s .z))))) | exact .s (.s (.s (.s (.s (.s (.s .z)))))) | exact .s (.s (.s (.s (.s (.s (.s (.s .z))))))) | exact .s (.s (.s (.s (.s (.s (.s (.s (.s .z)))))))) | exact .s (.s (.s (.s (.s (.s (.s (.s (.s (.s .z))))))))) | exact .s (.s (.s (.s (.s (.s (.s (.s (.s (.s (.s .z)))))))))) | exact .s (.s (.s (.s (.s (.s (.s (.s (.s (.s (.s (.s .z))))))))))) | exact .s (.s (.s (.s (.s (.s (.s (.s (.s (.s (.s (.s (.s .z))))))))))))) (by rfl) | rfl) ?_)) ?_
  refine .condff ?_
  exact lat9 hn hz hz5 gf kf gg kg ge ke h

/-- PosLattice is true. -/
theorem law5 {m : Mem} {fr : Heap} {z : Int} {v : AV} {as' : List ActR} (hv : IsActs v as') (hl : as'.length < 1152921504606846976) (hb : ∀ a ∈ as', a.l.length < 1152921504606846976) (h : Sep m fr) :
    WPc (Am.Call T) b5 [(0, v), (1, .int .i64 z)] m (Yes f5 .nrm) (Yes f5) := by
  refine head_lat hv hl hb h ?_
  intro fv f g e kf kg ke m hz hz5 h3 h20 hf hg he gf kf3 gg kg3 ge ke3 h
  refine open5 h3 h20 hf hg he rfl rfl rfl rfl rfl rfl h ?_
  intro a b c m h
  exact tail5 (lat10 (n := 400) (by omega) hz hz5 gf kf3 gg kg3 ge ke3 h)
end Go.Proofs.P16
