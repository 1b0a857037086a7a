import Derived.Test.YtdddcofggemnkaaP16Fns
import Derived.Test.YtdddcofggemnkaaAmK
namespace Go.Proofs.P16
set_option linter.unusedSimpArgs false
set_option linter.unusedVariables false
set_option linter.unusedSectionVars false
set_option linter.unnecessarySimpa false
open Go Go.Am
noncomputable section

-- resolvent/resolventlaw16.PosFull
def G3_4 (call : Nat → List AV → Mem → Rho) (n : Nat) (m0 : Mem) (y0 y1 : AV) (m : Mem) : Rho :=
  binK .gtr y1 (.int .i64 0) fun a0 =>
  gK a0 true (fun k => loadK (some 2) y0 m fun a1 m2 =>
  k a1 m2) m fun a3 m4 =>
  gK a0 true (fun k => buildSliceK 1 [(.int .i64 0)] 24 false [(0 * 1, 1, AV.untag (.int .i64 0)), (1 * 1, 1, AV.untag (.int .i64 1)), (2 * 1, 1, AV.untag (.int .i64 2)), (3 * 1, 1, AV.untag (.int .i64 3)), (4 * 1, 1, AV.untag (.int .i64 4)), (5 * 1, 1, AV.untag (.int .i64 5)), (6 * 1, 1, AV.untag (.int .i64 6)), (7 * 1, 1, AV.untag (.int .i64 7)), (8 * 1, 1, AV.untag (.int .i64 8)), (9 * 1, 1, AV.untag (.int .i64 9)), (10 * 1, 1, AV.untag (.int .i64 10)), (11 * 1, 1, AV.untag (.int .i64 11)), (12 * 1, 1, AV.untag (.int .i64 12)), (13 * 1, 1, AV.untag (.int .i64 13)), (14 * 1, 1, AV.untag (.int .i64 14)), (15 * 1, 1, AV.untag (.int .i64 15)), (16 * 1, 1, AV.untag (.int .i64 16)), (17 * 1, 1, AV.untag (.int .i64 17)), (18 * 1, 1, AV.untag (.int .i64 18)), (19 * 1, 1, AV.untag (.int .i64 19)), (20 * 1, 1, AV.untag (.int .i64 20)), (21 * 1, 1, AV.untag (.int .i64 21)), (22 * 1, 1, AV.untag (.int .i64 22)), (23 * 1, 1, AV.untag (.int .i64 23))] m4 fun a5 m6 =>
  k a5 m6) m4 fun a7 m8 =>
  gK a0 true (fun k => callK call (.func 14 [] []) false [a3, a7] m8 fun a9 m10 =>
  k a9 m10) m8 fun a11 m12 =>
  pickK a0 (some a11) (some (.bool false)) fun a13 =>
  gK a13 true (fun k => callK call (.func 15 [] []) false [] m12 fun a14 m15 =>
  k a14 m15) m12 fun a16 m17 =>
  pickK a13 (some a16) (some (.bool false)) fun a18 =>
  retK false false m0 [a18] m17
theorem g3_4 (call : Nat → List AV → Mem → Rho) (n : Nat) (m0 : Mem) (y0 y1 : AV) (m : Mem) : evK call n b3_4 [(1, y0), (2, y1)] m (fun e m => endK f3 m0 .nrm e m) (endK f3 m0) = G3_4 call n m0 y0 y1 m := by kernel_rfl
def k3_4 (call : Nat → List AV → Mem → Rho) (n : Nat) (m0 : Mem) : KN := (fun e m => endK f3 m0 .nrm e m)
def x3_4 (call : Nat → List AV → Mem → Rho) (n : Nat) (m0 : Mem) : KX := (endK f3 m0)
def S3_4 (call : Nat → List AV → Mem → Rho) (n : Nat) (m0 : Mem) (y0 y1 : AV) (m : Mem) : Rho := G3_4 call n m0 y0 y1 m
theorem s3_4 (call : Nat → List AV → Mem → Rho) (n : Nat) (m0 : Mem) (y0 y1 : AV) (m : Mem) : evK call n b3_4 [(1, y0), (2, y1)] m (fun e m => endK f3 m0 .nrm e m) (endK f3 m0) = S3_4 call n m0 y0 y1 m :=
  have h : evK call n b3_4 [(1, y0), (2, y1)] m (fun e m => endK f3 m0 .nrm e m) (endK f3 m0) = G3_4 call n m0 y0 y1 m := Eq.mp (by kernel_rfl) (g3_4 call n m0 y0 y1 m)
  h
def d3_4 (call : Nat → List AV → Mem → Rho) (n : Nat) (m0 : Mem) (y0 y1 : AV) (m : Mem) : Rho := evK call n b3_4 [(1, y0), (2, y1)] m (k3_4 call n m0) (x3_4 call n m0)
theorem l3_4 {call : Nat → List AV → Mem → Rho} {n : Nat} {m0 : Mem} : d3_4 call n m0 = S3_4 call n m0 := by funext y0 y1 m; exact Eq.mp (by kernel_rfl) (s3_4 call n m0 y0 y1 m)
def G3_1 (call : Nat → List AV → Mem → Rho) (n : Nat) (kn : KN) (kx : KX) (y0 y1 y2 : AV) (m : Mem) : Rho :=
  binK .add y2 (.int .i64 1) fun a0 =>
  kn [(1, y0), (2, y1), (3, a0)] m
theorem g3_1 (call : Nat → List AV → Mem → Rho) (n : Nat) (kn : KN) (kx : KX) (y0 y1 y2 : AV) (m : Mem) : evK call n b3_1 [(1, y0), (2, y1), (3, y2)] m kn kx = G3_1 call n kn kx y0 y1 y2 m := by kernel_rfl
def k3_1 (call : Nat → List AV → Mem → Rho) (n : Nat) (kn : KN) (kx : KX) : KN := kn
def x3_1 (call : Nat → List AV → Mem → Rho) (n : Nat) (kn : KN) (kx : KX) : KX := kx
def S3_1 (call : Nat → List AV → Mem → Rho) (n : Nat) (kn : KN) (kx : KX) (y0 y1 y2 : AV) (m : Mem) : Rho := G3_1 call n kn kx y0 y1 y2 m
theorem s3_1 (call : Nat → List AV → Mem → Rho) (n : Nat) (kn : KN) (kx : KX) (y0 y1 y2 : AV) (m : Mem) : evK call n b3_1 [(1, y0), (2, y1), (3, y2)] m kn kx = S3_1 call n kn kx y0 y1 y2 m :=
  have h : evK call n b3_1 [(1, y0), (2, y1), (3, y2)] m kn kx = G3_1 call n kn kx y0 y1 y2 m := Eq.mp (by kernel_rfl) (g3_1 call n kn kx y0 y1 y2 m)
  h
def d3_1 (call : Nat → List AV → Mem → Rho) (n : Nat) (kn : KN) (kx : KX) (y0 y1 y2 : AV) (m : Mem) : Rho := evK call n b3_1 [(1, y0), (2, y1), (3, y2)] m (k3_1 call n kn kx) (x3_1 call n kn kx)
theorem l3_1 {call : Nat → List AV → Mem → Rho} {n : Nat} {kn : KN} {kx : KX} : d3_1 call n kn kx = S3_1 call n kn kx := by funext y0 y1 y2 m; exact Eq.mp (by kernel_rfl) (s3_1 call n kn kx y0 y1 y2 m)
def G3_2 (call : Nat → List AV → Mem → Rho) (n : Nat) (kn : KN) (kx : KX) (Q3_1 : AV → AV → AV → Mem → Rho) (y0 y1 y2 : AV) (m : Mem) : Rho :=
  loadK (some 2) y0 m fun a0 m1 =>
  binK .add (.int .i64 12) y2 fun a2 =>
  buildSliceK 1 [(.int .i64 0)] 1 false [(0 * 1, 1, AV.untag a2)] m1 fun a3 m4 =>
  callK call (.func 12 [] []) false [y2, a3] m4 fun a5 m6 =>
  callK call (.func 11 [] []) false [a0, a5] m6 fun a7 m8 =>
  storeK 2 y0 a7 m8 fun a9 m10 =>
  cond (stayK [m, m6, m8, m10] [(fun m => m.load (some 2) y0, a0, 0, 2, true)]) (loadK (some 2) y0 m10 fun a11 m12 =>
  callK call (.func 13 [] []) false [a11] m12 fun a13 m14 =>
  max2K y1 a13 fun a15 =>
  loadK (some 2) y0 m14 fun a16 m17 =>
  callK call (.func 13 [] []) false [a16] m17 fun a18 m19 =>
  binK .gtr a18 (.int .i64 256) fun a20 =>
  condK a20
  (kx .ret [(0, (.bool false))] m19)
  (Q3_1 y0 a15 y2 m19)) none
theorem g3_2 (call : Nat → List AV → Mem → Rho) (n : Nat) (kn : KN) (kx : KX) (b3_1 : C) (y0 y1 y2 : AV) (m : Mem) : evK call n (c3_2 b3_1) [(1, y0), (2, y1), (3, y2)] m kn kx = G3_2 call n kn kx (fun x0 x1 x2 m => evK call n b3_1 [(1, x0), (2, x1), (3, x2)] m kn kx) y0 y1 y2 m := by kernel_rfl
def k3_2 (call : Nat → List AV → Mem → Rho) (n : Nat) (kn : KN) (kx : KX) : KN := kn
def x3_2 (call : Nat → List AV → Mem → Rho) (n : Nat) (kn : KN) (kx : KX) : KX := kx
def S3_2 (call : Nat → List AV → Mem → Rho) (n : Nat) (kn : KN) (kx : KX) (y0 y1 y2 : AV) (m : Mem) : Rho := G3_2 call n kn kx (S3_1 call n kn kx) y0 y1 y2 m
theorem s3_2 (call : Nat → List AV → Mem → Rho) (n : Nat) (kn : KN) (kx : KX) (y0 y1 y2 : AV) (m : Mem) : evK call n b3_2 [(1, y0), (2, y1), (3, y2)] m kn kx = S3_2 call n kn kx y0 y1 y2 m :=
  have h : evK call n b3_2 [(1, y0), (2, y1), (3, y2)] m kn kx = G3_2 call n kn kx (d3_1 call n kn kx) y0 y1 y2 m := Eq.mp (by kernel_rfl) (g3_2 call n kn kx b3_1 y0 y1 y2 m)
  by rw [l3_1] at h; exact h
def d3_2 (call : Nat → List AV → Mem → Rho) (n : Nat) (kn : KN) (kx : KX) (y0 y1 y2 : AV) (m : Mem) : Rho := evK call n b3_2 [(1, y0), (2, y1), (3, y2)] m (k3_2 call n kn kx) (x3_2 call n kn kx)
theorem l3_2 {call : Nat → List AV → Mem → Rho} {n : Nat} {kn : KN} {kx : KX} : d3_2 call n kn kx = S3_2 call n kn kx := by funext y0 y1 y2 m; exact Eq.mp (by kernel_rfl) (s3_2 call n kn kx y0 y1 y2 m)
def G3_3 (call : Nat → List AV → Mem → Rho) (n : Nat) (kn : KN) (kx : KX) (Q3_2 : AV → AV → AV → Mem → Rho) (y0 y1 y2 : AV) (m : Mem) : Rho :=
  binK .lss y2 (.int .i64 12) fun a0 =>
  condK a0
  (Q3_2 y0 y1 y2 m)
  (kx (.ext 0) [(1, y0), (2, y1), (3, y2), (6, a0)] m)
theorem g3_3 (call : Nat → List AV → Mem → Rho) (n : Nat) (kn : KN) (kx : KX) (b3_2 : C) (y0 y1 y2 : AV) (m : Mem) : evK call n (c3_3 b3_2) [(1, y0), (2, y1), (3, y2)] m kn kx = G3_3 call n kn kx (fun x0 x1 x2 m => evK call n b3_2 [(1, x0), (2, x1), (3, x2)] m kn kx) y0 y1 y2 m := by kernel_rfl
def S3_3 (call : Nat → List AV → Mem → Rho) (n : Nat) (kn : KN) (kx : KX) (y0 y1 y2 : AV) (m : Mem) : Rho := G3_3 call n kn kx (S3_2 call n kn kx) y0 y1 y2 m
theorem s3_3 (call : Nat → List AV → Mem → Rho) (n : Nat) (kn : KN) (kx : KX) (y0 y1 y2 : AV) (m : Mem) : evK call n b3_3 [(1, y0), (2, y1), (3, y2)] m kn kx = S3_3 call n kn kx y0 y1 y2 m :=
  have h : evK call n b3_3 [(1, y0), (2, y1), (3, y2)] m kn kx = G3_3 call n kn kx (d3_2 call n kn kx) y0 y1 y2 m := Eq.mp (by kernel_rfl) (g3_3 call n kn kx b3_2 y0 y1 y2 m)
  by rw [l3_2] at h; exact h
def d3_3 (call : Nat → List AV → Mem → Rho) (n : Nat) (kn : KN) (kx : KX) (y0 y1 y2 : AV) (m : Mem) : Rho := evK call n b3_3 [(1, y0), (2, y1), (3, y2)] m kn kx
theorem l3_3 {call : Nat → List AV → Mem → Rho} {n : Nat} : d3_3 call n = S3_3 call n := by funext kn kx y0 y1 y2 m; exact Eq.mp (by kernel_rfl) (s3_3 call n kn kx y0 y1 y2 m)
def G3 (call : Nat → List AV → Mem → Rho) (n : Nat) (m0 : Mem) (B3_3 : KN → KX → AV → AV → AV → Mem → Rho) (Q3_4 : AV → AV → Mem → Rho) (m : Mem) : Rho :=
  callK call (.func 10 [] []) false [(.bool true)] m fun a0 m1 =>
  newK [(.list .full 0 []), (.bool false)] m1 fun a2 m3 =>
  storeK 2 a2 a0 m3 fun a4 m5 =>
  loopV [1, 2, 3] none (fun vs m kn kx => unc vs fun x0 vs => unc vs fun x1 vs => unc vs fun x2 vs => unz vs (B3_3 kn kx x0 x1 x2 m)) (blkK 0 (fun e m => keepK e [1, 2] fun vs => unc vs fun x0 vs => unc vs fun x1 vs => unz vs (Q3_4 x0 x1 m)) (endK f3 m0)) n [a2, (.int .i64 0), (.int .i64 0)] m5
theorem g3 (call : Nat → List AV → Mem → Rho) (n : Nat) (m0 : Mem) (b3_3 : C) (b3_4 : C) (m : Mem) : evK call n (c3 b3_3 b3_4) [] m (fun e m => endK f3 m0 .nrm e m) (endK f3 m0) = G3 call n m0 (fun kn kx x0 x1 x2 m => evK call n b3_3 [(1, x0), (2, x1), (3, x2)] m kn kx) (fun x0 x1 m => evK call n b3_4 [(1, x0), (2, x1)] m (fun e m => endK f3 m0 .nrm e m) (endK f3 m0)) m := by kernel_rfl
def S3 (call : Nat → List AV → Mem → Rho) (n : Nat) (m0 : Mem) : Rho := G3 call n m0 (S3_3 call n) (S3_4 call n m0) { m0 with bad := none }
theorem s3 (call : Nat → List AV → Mem → Rho) (n : Nat) (m0 : Mem) : bodyK call n f3 [] m0 = S3 call n m0 :=
  have h : bodyK call n f3 [] m0 = G3 call n m0 (d3_3 call n) (d3_4 call n m0) { m0 with bad := none } := Eq.mp (by kernel_rfl) (g3 call n m0 b3_3 b3_4 { m0 with bad := none })
  by rw [l3_3, l3_4] at h; exact h
def F3 : SF := fun call n vs m0 => unz vs (S3 call n m0)
theorem F3_ok {orc : List AV → Mem → Option (AV × Mem)} : SOk 3 { f3 with orc := orc } F3 := by
  intro call n vs m0 ho r h0
  simp only [F3] at h0
  obtain ⟨rfl, hz⟩ := unz_some h0
  exact bodyK_le ho rfl r (Eq.mp (by kernel_rfl) ((s3 call n m0).trans hz))

-- resolvent/pos.Const
def G10 (call : Nat → List AV → Mem → Rho) (n : Nat) (m0 : Mem) (y0 : AV) (m : Mem) : Rho :=
  newK [(.list .full 0 []), (.bool false)] m fun a0 m1 =>
  buildK [(.list .full 0 []), (.bool false)] [(1, 1, AV.untag1 y0)] fun a2 =>
  storeK 2 a0 a2 m1 fun a3 m4 =>
  loadK (some 2) a0 m4 fun a5 _ =>
  retK false false m0 [a5] m4
theorem g10 (call : Nat → List AV → Mem → Rho) (n : Nat) (m0 : Mem) (y0 : AV) (m : Mem) : evK call n b10 [(0, y0)] m (fun e m => endK f10 m0 .nrm e m) (endK f10 m0) = G10 call n m0 y0 m := by kernel_rfl
def S10 (call : Nat → List AV → Mem → Rho) (n : Nat) (m0 : Mem) (y0 : AV) : Rho := G10 call n m0 y0 { m0 with bad := none }
theorem s10 (call : Nat → List AV → Mem → Rho) (n : Nat) (m0 : Mem) (y0 : AV) : bodyK call n f10 [y0] m0 = S10 call n m0 y0 :=
  have h : bodyK call n f10 [y0] m0 = G10 call n m0 y0 { m0 with bad := none } := Eq.mp (by kernel_rfl) (g10 call n m0 y0 { m0 with bad := none })
  h
def F10 : SF := fun call n vs m0 => unc vs fun x0 vs => unz vs (S10 call n m0 x0)
theorem F10_ok {orc : List AV → Mem → Option (AV × Mem)} : SOk 10 { f10 with orc := orc } F10 := by
  intro call n vs m0 ho r h0
  simp only [F10] at h0
  obtain ⟨y0, v0, rfl, h1⟩ := unc_some h0
  obtain ⟨rfl, hz⟩ := unz_some h1
  exact bodyK_le ho rfl r (Eq.mp (by kernel_rfl) ((s10 call n m0 y0).trans hz))

-- resolvent/pos.And
def G11 (call : Nat → List AV → Mem → Rho) (n : Nat) (m0 : Mem) (y0 y1 : AV) (m : Mem) : Rho :=
  boxK y0 m fun a0 m1 =>
  boxK y1 m1 fun a2 m3 =>
  newK [(.list .full 0 []), (.bool false)] m3 fun a4 m5 =>
  loadK (some 2) a0 m5 fun a6 m7 =>
  loadK (some 2) a2 m7 fun a8 m9 =>
  buildSliceK 2 [(.list .full 0 []), (.bool false)] 1 false [(0 * 2, 2, AV.untag a8)] m9 fun a10 m11 =>
  callK call (.func 44 [] []) false [(.func 45 [] []), a6, a10] m11 fun a12 m13 =>
  storeK 2 a4 a12 m13 fun a14 m15 =>
  loadK (some 2) a4 m15 fun a16 _ =>
  retK false false m0 [a16] m15
theorem g11 (call : Nat → List AV → Mem → Rho) (n : Nat) (m0 : Mem) (y0 y1 : AV) (m : Mem) : evK call n b11 [(0, y0), (1, y1)] m (fun e m => endK f11 m0 .nrm e m) (endK f11 m0) = G11 call n m0 y0 y1 m := by kernel_rfl
def S11 (call : Nat → List AV → Mem → Rho) (n : Nat) (m0 : Mem) (y0 y1 : AV) : Rho := G11 call n m0 y0 y1 { m0 with bad := none }
theorem s11 (call : Nat → List AV → Mem → Rho) (n : Nat) (m0 : Mem) (y0 y1 : AV) : bodyK call n f11 [y0, y1] m0 = S11 call n m0 y0 y1 :=
  have h : bodyK call n f11 [y0, y1] m0 = G11 call n m0 y0 y1 { m0 with bad := none } := Eq.mp (by kernel_rfl) (g11 call n m0 y0 y1 { m0 with bad := none })
  h
def F11 : SF := fun call n vs m0 => unc vs fun x0 vs => unc vs fun x1 vs => unz vs (S11 call n m0 x0 x1)
theorem F11_ok {orc : List AV → Mem → Option (AV × Mem)} : SOk 11 { f11 with orc := orc } F11 := by
  intro call n vs m0 ho r h0
  simp only [F11] at h0
  obtain ⟨y0, v0, rfl, h1⟩ := unc_some h0
  obtain ⟨y1, v1, rfl, h2⟩ := unc_some h1
  obtain ⟨rfl, hz⟩ := unz_some h2
  exact bodyK_le ho rfl r (Eq.mp (by kernel_rfl) ((s11 call n m0 y0 y1).trans hz))

-- resolvent/pos.Iff
def G12_3 (call : Nat → List AV → Mem → Rho) (n : Nat) (m0 : Mem) (y0 y1 y2 y3 y4 : AV) (m : Mem) : Rho :=
  callK call (.func 53 [] []) false [y1, y2] m fun a0 m1 =>
  callK call (.func 47 [] []) false [y1, y4, a0, (.func 45 [] [])] m1 fun a2 m3 =>
  callK call (.func 47 [] []) false [y1, y3, a2, (.func 52 [] [])] m3 fun a4 m5 =>
  callK call (.func 51 [] []) false [y1, a4] m5 fun a6 m7 =>
  storeK 2 y0 a6 m7 fun a8 m9 =>
  loadK (some 2) y0 m9 fun a10 _ =>
  retK false false m0 [a10] m9
theorem g12_3 (call : Nat → List AV → Mem → Rho) (n : Nat) (m0 : Mem) (y0 y1 y2 y3 y4 : AV) (m : Mem) : evK call n b12_3 [(4, y0), (5, y1), (6, y2), (11, y3), (12, y4)] m (fun e m => endK f12 m0 .nrm e m) (endK f12 m0) = G12_3 call n m0 y0 y1 y2 y3 y4 m := by kernel_rfl
def k12_3 (call : Nat → List AV → Mem → Rho) (n : Nat) (m0 : Mem) : KN := (fun e m => endK f12 m0 .nrm e m)
def x12_3 (call : Nat → List AV → Mem → Rho) (n : Nat) (m0 : Mem) : KX := (endK f12 m0)
def S12_3 (call : Nat → List AV → Mem → Rho) (n : Nat) (m0 : Mem) (y0 y1 y2 y3 y4 : AV) (m : Mem) : Rho := G12_3 call n m0 y0 y1 y2 y3 y4 m
theorem s12_3 (call : Nat → List AV → Mem → Rho) (n : Nat) (m0 : Mem) (y0 y1 y2 y3 y4 : AV) (m : Mem) : evK call n b12_3 [(4, y0), (5, y1), (6, y2), (11, y3), (12, y4)] m (fun e m => endK f12 m0 .nrm e m) (endK f12 m0) = S12_3 call n m0 y0 y1 y2 y3 y4 m :=
  have h : evK call n b12_3 [(4, y0), (5, y1), (6, y2), (11, y3), (12, y4)] m (fun e m => endK f12 m0 .nrm e m) (endK f12 m0) = G12_3 call n m0 y0 y1 y2 y3 y4 m := Eq.mp (by kernel_rfl) (g12_3 call n m0 y0 y1 y2 y3 y4 m)
  h
def d12_3 (call : Nat → List AV → Mem → Rho) (n : Nat) (m0 : Mem) (y0 y1 y2 y3 y4 : AV) (m : Mem) : Rho := evK call n b12_3 [(4, y0), (5, y1), (6, y2), (11, y3), (12, y4)] m (k12_3 call n m0) (x12_3 call n m0)
theorem l12_3 {call : Nat → List AV → Mem → Rho} {n : Nat} {m0 : Mem} : d12_3 call n m0 = S12_3 call n m0 := by funext y0 y1 y2 y3 y4 m; exact Eq.mp (by kernel_rfl) (s12_3 call n m0 y0 y1 y2 y3 y4 m)
def G12_4 (call : Nat → List AV → Mem → Rho) (n : Nat) (m0 : Mem) (Q12_3 : AV → AV → AV → AV → AV → Mem → Rho) (y0 y1 y2 y3 y4 : AV) (m : Mem) : Rho :=
  callK call (.func 25 [] []) false [y0] m fun a0 m1 =>
  callK call (.func 48 [] []) false [y3, a0] m1 fun a2 m3 =>
  callK call (.func 49 [] []) false [y1, y0] m3 fun a4 m5 =>
  callK call (.func 47 [] []) false [y3, a2, y4, (.func 45 [] [])] m5 fun a6 m7 =>
  buildK [(.int .i64 0), (.int .i64 0), (.int .i64 0)] [(0, 1, AV.untag1 y0), (1, 1, AV.untag1 (.int .i64 1)), (2, 1, AV.untag1 (.int .i64 0))] fun a8 =>
  callK call (.func 50 [] []) false [y3, a8] m7 fun a9 m10 =>
  condK a4
  (callK call (.func 47 [] []) false [y3, a6, a9, (.func 52 [] [])] m10 fun a11 m12 =>
  callK call (.func 51 [] []) false [y3, a11] m12 fun a13 m14 =>
  storeK 2 y2 a13 m14 fun a15 m16 =>
  loadK (some 2) y2 m16 fun a17 _ =>
  retK false false m0 [a17] m16)
  (Q12_3 y2 y3 y4 a6 a9 m10)
theorem g12_4 (call : Nat → List AV → Mem → Rho) (n : Nat) (m0 : Mem) (b12_3 : C) (y0 y1 y2 y3 y4 : AV) (m : Mem) : evK call n (c12_4 b12_3) [(0, y0), (1, y1), (4, y2), (5, y3), (6, y4)] m (fun e m => endK f12 m0 .nrm e m) (endK f12 m0) = G12_4 call n m0 (fun x0 x1 x2 x3 x4 m => evK call n b12_3 [(4, x0), (5, x1), (6, x2), (11, x3), (12, x4)] m (fun e m => endK f12 m0 .nrm e m) (endK f12 m0)) y0 y1 y2 y3 y4 m := by kernel_rfl
def k12_4 (call : Nat → List AV → Mem → Rho) (n : Nat) (m0 : Mem) : KN := (fun e m => endK f12 m0 .nrm e m)
def x12_4 (call : Nat → List AV → Mem → Rho) (n : Nat) (m0 : Mem) : KX := (endK f12 m0)
def S12_4 (call : Nat → List AV → Mem → Rho) (n : Nat) (m0 : Mem) (y0 y1 y2 y3 y4 : AV) (m : Mem) : Rho := G12_4 call n m0 (S12_3 call n m0) y0 y1 y2 y3 y4 m
theorem s12_4 (call : Nat → List AV → Mem → Rho) (n : Nat) (m0 : Mem) (y0 y1 y2 y3 y4 : AV) (m : Mem) : evK call n b12_4 [(0, y0), (1, y1), (4, y2), (5, y3), (6, y4)] m (fun e m => endK f12 m0 .nrm e m) (endK f12 m0) = S12_4 call n m0 y0 y1 y2 y3 y4 m :=
  have h : evK call n b12_4 [(0, y0), (1, y1), (4, y2), (5, y3), (6, y4)] m (fun e m => endK f12 m0 .nrm e m) (endK f12 m0) = G12_4 call n m0 (d12_3 call n m0) y0 y1 y2 y3 y4 m := Eq.mp (by kernel_rfl) (g12_4 call n m0 b12_3 y0 y1 y2 y3 y4 m)
  by rw [l12_3] at h; exact h
def d12_4 (call : Nat → List AV → Mem → Rho) (n : Nat) (m0 : Mem) (y0 y1 y2 y3 y4 : AV) (m : Mem) : Rho := evK call n b12_4 [(0, y0), (1, y1), (4, y2), (5, y3), (6, y4)] m (k12_4 call n m0) (x12_4 call n m0)
theorem l12_4 {call : Nat → List AV → Mem → Rho} {n : Nat} {m0 : Mem} : d12_4 call n m0 = S12_4 call n m0 := by funext y0 y1 y2 y3 y4 m; exact Eq.mp (by kernel_rfl) (s12_4 call n m0 y0 y1 y2 y3 y4 m)
def G12_0 (call : Nat → List AV → Mem → Rho) (n : Nat) (kn : KN) (kx : KX) (y0 y1 y2 y3 y4 y5 y6 y7 : AV) (m : Mem) : Rho :=
  binK .add y7 (.int .i64 1) fun a0 =>
  kn [(0, y0), (1, y1), (4, y2), (5, y3), (6, y4), (17, y5), (18, y6), (19, a0)] m
theorem g12_0 (call : Nat → List AV → Mem → Rho) (n : Nat) (kn : KN) (kx : KX) (y0 y1 y2 y3 y4 y5 y6 y7 : AV) (m : Mem) : evK call n b12_0 [(0, y0), (1, y1), (4, y2), (5, y3), (6, y4), (17, y5), (18, y6), (19, y7)] m kn kx = G12_0 call n kn kx y0 y1 y2 y3 y4 y5 y6 y7 m := by kernel_rfl
def k12_0 (call : Nat → List AV → Mem → Rho) (n : Nat) (kn : KN) (kx : KX) : KN := kn
def x12_0 (call : Nat → List AV → Mem → Rho) (n : Nat) (kn : KN) (kx : KX) : KX := kx
def S12_0 (call : Nat → List AV → Mem → Rho) (n : Nat) (kn : KN) (kx : KX) (y0 y1 y2 y3 y4 y5 y6 y7 : AV) (m : Mem) : Rho := G12_0 call n kn kx y0 y1 y2 y3 y4 y5 y6 y7 m
theorem s12_0 (call : Nat → List AV → Mem → Rho) (n : Nat) (kn : KN) (kx : KX) (y0 y1 y2 y3 y4 y5 y6 y7 : AV) (m : Mem) : evK call n b12_0 [(0, y0), (1, y1), (4, y2), (5, y3), (6, y4), (17, y5), (18, y6), (19, y7)] m kn kx = S12_0 call n kn kx y0 y1 y2 y3 y4 y5 y6 y7 m :=
  have h : evK call n b12_0 [(0, y0), (1, y1), (4, y2), (5, y3), (6, y4), (17, y5), (18, y6), (19, y7)] m kn kx = G12_0 call n kn kx y0 y1 y2 y3 y4 y5 y6 y7 m := Eq.mp (by kernel_rfl) (g12_0 call n kn kx y0 y1 y2 y3 y4 y5 y6 y7 m)
  h
def d12_0 (call : Nat → List AV → Mem → Rho) (n : Nat) (kn : KN) (kx : KX) (y0 y1 y2 y3 y4 y5 y6 y7 : AV) (m : Mem) : Rho := evK call n b12_0 [(0, y0), (1, y1), (4, y2), (5, y3), (6, y4), (17, y5), (18, y6), (19, y7)] m (k12_0 call n kn kx) (x12_0 call n kn kx)
theorem l12_0 {call : Nat → List AV → Mem → Rho} {n : Nat} {kn : KN} {kx : KX} : d12_0 call n kn kx = S12_0 call n kn kx := by funext y0 y1 y2 y3 y4 y5 y6 y7 m; exact Eq.mp (by kernel_rfl) (s12_0 call n kn kx y0 y1 y2 y3 y4 y5 y6 y7 m)
def G12_1 (call : Nat → List AV → Mem → Rho) (n : Nat) (kn : KN) (kx : KX) (Q12_0 : AV → AV → AV → AV → AV → AV → AV → AV → Mem → Rho) (y0 y1 y2 y3 y4 y5 y6 y7 : AV) (m : Mem) : Rho :=
  vK (aIndexAddr m 1 y5 y7) m fun a0 m1 =>
  loadK none a0 m1 fun a2 m3 =>
  binK .neq a2 y0 fun a4 =>
  condK a4
  (callK call (.func 25 [] []) false [a2] m3 fun a5 m6 =>
  callK call (.func 48 [] []) false [y3, a5] m6 fun a7 m8 =>
  callK call (.func 47 [] []) false [y3, y4, a7, (.func 45 [] [])] m8 fun a9 m10 =>
  Q12_0 y0 y1 y2 y3 a9 y5 y6 y7 m10)
  (Q12_0 y0 y1 y2 y3 y4 y5 y6 y7 m3)
theorem g12_1 (call : Nat → List AV → Mem → Rho) (n : Nat) (kn : KN) (kx : KX) (b12_0 : C) (y0 y1 y2 y3 y4 y5 y6 y7 : AV) (m : Mem) : evK call n (c12_1 b12_0) [(0, y0), (1, y1), (4, y2), (5, y3), (6, y4), (17, y5), (18, y6), (19, y7)] m kn kx = G12_1 call n kn kx (fun x0 x1 x2 x3 x4 x5 x6 x7 m => evK call n b12_0 [(0, x0), (1, x1), (4, x2), (5, x3), (6, x4), (17, x5), (18, x6), (19, x7)] m kn kx) y0 y1 y2 y3 y4 y5 y6 y7 m := by kernel_rfl
def k12_1 (call : Nat → List AV → Mem → Rho) (n : Nat) (kn : KN) (kx : KX) : KN := kn
def x12_1 (call : Nat → List AV → Mem → Rho) (n : Nat) (kn : KN) (kx : KX) : KX := kx
def S12_1 (call : Nat → List AV → Mem → Rho) (n : Nat) (kn : KN) (kx : KX) (y0 y1 y2 y3 y4 y5 y6 y7 : AV) (m : Mem) : Rho := G12_1 call n kn kx (S12_0 call n kn kx) y0 y1 y2 y3 y4 y5 y6 y7 m
theorem s12_1 (call : Nat → List AV → Mem → Rho) (n : Nat) (kn : KN) (kx : KX) (y0 y1 y2 y3 y4 y5 y6 y7 : AV) (m : Mem) : evK call n b12_1 [(0, y0), (1, y1), (4, y2), (5, y3), (6, y4), (17, y5), (18, y6), (19, y7)] m kn kx = S12_1 call n kn kx y0 y1 y2 y3 y4 y5 y6 y7 m :=
  have h : evK call n b12_1 [(0, y0), (1, y1), (4, y2), (5, y3), (6, y4), (17, y5), (18, y6), (19, y7)] m kn kx = G12_1 call n kn kx (d12_0 call n kn kx) y0 y1 y2 y3 y4 y5 y6 y7 m := Eq.mp (by kernel_rfl) (g12_1 call n kn kx b12_0 y0 y1 y2 y3 y4 y5 y6 y7 m)
  by rw [l12_0] at h; exact h
def d12_1 (call : Nat → List AV → Mem → Rho) (n : Nat) (kn : KN) (kx : KX) (y0 y1 y2 y3 y4 y5 y6 y7 : AV) (m : Mem) : Rho := evK call n b12_1 [(0, y0), (1, y1), (4, y2), (5, y3), (6, y4), (17, y5), (18, y6), (19, y7)] m (k12_1 call n kn kx) (x12_1 call n kn kx)
theorem l12_1 {call : Nat → List AV → Mem → Rho} {n : Nat} {kn : KN} {kx : KX} : d12_1 call n kn kx = S12_1 call n kn kx := by funext y0 y1 y2 y3 y4 y5 y6 y7 m; exact Eq.mp (by kernel_rfl) (s12_1 call n kn kx y0 y1 y2 y3 y4 y5 y6 y7 m)
def G12_2 (call : Nat → List AV → Mem → Rho) (n : Nat) (kn : KN) (kx : KX) (Q12_1 : AV → AV → AV → AV → AV → AV → AV → AV → Mem → Rho) (y0 y1 y2 y3 y4 y5 y6 y7 : AV) (m : Mem) : Rho :=
  binK .lss y7 y6 fun a0 =>
  condK a0
  (Q12_1 y0 y1 y2 y3 y4 y5 y6 y7 m)
  (kx (.ext 0) [(0, y0), (1, y1), (4, y2), (5, y3), (6, y4), (17, y5), (18, y6), (19, y7), (20, a0)] m)
theorem g12_2 (call : Nat → List AV → Mem → Rho) (n : Nat) (kn : KN) (kx : KX) (b12_1 : C) (y0 y1 y2 y3 y4 y5 y6 y7 : AV) (m : Mem) : evK call n (c12_2 b12_1) [(0, y0), (1, y1), (4, y2), (5, y3), (6, y4), (17, y5), (18, y6), (19, y7)] m kn kx = G12_2 call n kn kx (fun x0 x1 x2 x3 x4 x5 x6 x7 m => evK call n b12_1 [(0, x0), (1, x1), (4, x2), (5, x3), (6, x4), (17, x5), (18, x6), (19, x7)] m kn kx) y0 y1 y2 y3 y4 y5 y6 y7 m := by kernel_rfl
def S12_2 (call : Nat → List AV → Mem → Rho) (n : Nat) (kn : KN) (kx : KX) (y0 y1 y2 y3 y4 y5 y6 y7 : AV) (m : Mem) : Rho := G12_2 call n kn kx (S12_1 call n kn kx) y0 y1 y2 y3 y4 y5 y6 y7 m
theorem s12_2 (call : Nat → List AV → Mem → Rho) (n : Nat) (kn : KN) (kx : KX) (y0 y1 y2 y3 y4 y5 y6 y7 : AV) (m : Mem) : evK call n b12_2 [(0, y0), (1, y1), (4, y2), (5, y3), (6, y4), (17, y5), (18, y6), (19, y7)] m kn kx = S12_2 call n kn kx y0 y1 y2 y3 y4 y5 y6 y7 m :=
  have h : evK call n b12_2 [(0, y0), (1, y1), (4, y2), (5, y3), (6, y4), (17, y5), (18, y6), (19, y7)] m kn kx = G12_2 call n kn kx (d12_1 call n kn kx) y0 y1 y2 y3 y4 y5 y6 y7 m := Eq.mp (by kernel_rfl) (g12_2 call n kn kx b12_1 y0 y1 y2 y3 y4 y5 y6 y7 m)
  by rw [l12_1] at h; exact h
def d12_2 (call : Nat → List AV → Mem → Rho) (n : Nat) (kn : KN) (kx : KX) (y0 y1 y2 y3 y4 y5 y6 y7 : AV) (m : Mem) : Rho := evK call n b12_2 [(0, y0), (1, y1), (4, y2), (5, y3), (6, y4), (17, y5), (18, y6), (19, y7)] m kn kx
theorem l12_2 {call : Nat → List AV → Mem → Rho} {n : Nat} : d12_2 call n = S12_2 call n := by funext kn kx y0 y1 y2 y3 y4 y5 y6 y7 m; exact Eq.mp (by kernel_rfl) (s12_2 call n kn kx y0 y1 y2 y3 y4 y5 y6 y7 m)
def G12_5 (call : Nat → List AV → Mem → Rho) (n : Nat) (m0 : Mem) (B12_2 : KN → KX → AV → AV → AV → AV → AV → AV → AV → AV → Mem → Rho) (Q12_4 : AV → AV → AV → AV → AV → Mem → Rho) (y0 y1 y2 : AV) (m : Mem) : Rho :=
  callK call (.func 46 [] []) false [] m fun a0 m1 =>
  vK (aLen m1 1 y1) m1 fun a2 m3 =>
  loopV [0, 1, 4, 5, 6, 17, 18, 19] none (fun vs m kn kx => unc vs fun x0 vs => unc vs fun x1 vs => unc vs fun x2 vs => unc vs fun x3 vs => unc vs fun x4 vs => unc vs fun x5 vs => unc vs fun x6 vs => unc vs fun x7 vs => unz vs (B12_2 kn kx x0 x1 x2 x3 x4 x5 x6 x7 m)) (blkK 0 (fun e m => keepK e [0, 1, 4, 5, 6] fun vs => unc vs fun x0 vs => unc vs fun x1 vs => unc vs fun x2 vs => unc vs fun x3 vs => unc vs fun x4 vs => unz vs (Q12_4 x0 x1 x2 x3 x4 m)) (endK f12 m0)) n [y0, y1, y2, a0, (.int .i64 1), y1, a2, (.int .i64 0)] m3
theorem g12_5 (call : Nat → List AV → Mem → Rho) (n : Nat) (m0 : Mem) (b12_2 : C) (b12_4 : C) (y0 y1 y2 : AV) (m : Mem) : evK call n (c12_5 b12_2 b12_4) [(0, y0), (1, y1), (4, y2)] m (fun e m => endK f12 m0 .nrm e m) (endK f12 m0) = G12_5 call n m0 (fun kn kx x0 x1 x2 x3 x4 x5 x6 x7 m => evK call n b12_2 [(0, x0), (1, x1), (4, x2), (5, x3), (6, x4), (17, x5), (18, x6), (19, x7)] m kn kx) (fun x0 x1 x2 x3 x4 m => evK call n b12_4 [(0, x0), (1, x1), (4, x2), (5, x3), (6, x4)] m (fun e m => endK f12 m0 .nrm e m) (endK f12 m0)) y0 y1 y2 m := by kernel_rfl
def k12_5 (call : Nat → List AV → Mem → Rho) (n : Nat) (m0 : Mem) : KN := (fun e m => endK f12 m0 .nrm e m)
def x12_5 (call : Nat → List AV → Mem → Rho) (n : Nat) (m0 : Mem) : KX := (endK f12 m0)
def S12_5 (call : Nat → List AV → Mem → Rho) (n : Nat) (m0 : Mem) (y0 y1 y2 : AV) (m : Mem) : Rho := G12_5 call n m0 (S12_2 call n) (S12_4 call n m0) y0 y1 y2 m
theorem s12_5 (call : Nat → List AV → Mem → Rho) (n : Nat) (m0 : Mem) (y0 y1 y2 : AV) (m : Mem) : evK call n b12_5 [(0, y0), (1, y1), (4, y2)] m (fun e m => endK f12 m0 .nrm e m) (endK f12 m0) = S12_5 call n m0 y0 y1 y2 m :=
  have h : evK call n b12_5 [(0, y0), (1, y1), (4, y2)] m (fun e m => endK f12 m0 .nrm e m) (endK f12 m0) = G12_5 call n m0 (d12_2 call n) (d12_4 call n m0) y0 y1 y2 m := Eq.mp (by kernel_rfl) (g12_5 call n m0 b12_2 b12_4 y0 y1 y2 m)
  by rw [l12_2, l12_4] at h; exact h
def d12_5 (call : Nat → List AV → Mem → Rho) (n : Nat) (m0 : Mem) (y0 y1 y2 : AV) (m : Mem) : Rho := evK call n b12_5 [(0, y0), (1, y1), (4, y2)] m (k12_5 call n m0) (x12_5 call n m0)
theorem l12_5 {call : Nat → List AV → Mem → Rho} {n : Nat} {m0 : Mem} : d12_5 call n m0 = S12_5 call n m0 := by funext y0 y1 y2 m; exact Eq.mp (by kernel_rfl) (s12_5 call n m0 y0 y1 y2 m)
def G12 (call : Nat → List AV → Mem → Rho) (n : Nat) (m0 : Mem) (Q12_5 : AV → AV → AV → Mem → Rho) (y0 y1 : AV) (m : Mem) : Rho :=
  newK [(.list .full 0 []), (.bool false)] m fun a0 m1 =>
  binK .lss y0 (.int .i64 0) fun a2 =>
  condK a2
  (callK call (.func 10 [] []) false [(.bool true)] m1 fun a3 m4 =>
  storeK 2 a0 a3 m4 fun a5 m6 =>
  loadK (some 2) a0 m6 fun a7 _ =>
  retK false false m0 [a7] m6)
  (Q12_5 y0 y1 a0 m1)
theorem g12 (call : Nat → List AV → Mem → Rho) (n : Nat) (m0 : Mem) (b12_5 : C) (y0 y1 : AV) (m : Mem) : evK call n (c12 b12_5) [(0, y0), (1, y1)] m (fun e m => endK f12 m0 .nrm e m) (endK f12 m0) = G12 call n m0 (fun x0 x1 x2 m => evK call n b12_5 [(0, x0), (1, x1), (4, x2)] m (fun e m => endK f12 m0 .nrm e m) (endK f12 m0)) y0 y1 m := by kernel_rfl
def S12 (call : Nat → List AV → Mem → Rho) (n : Nat) (m0 : Mem) (y0 y1 : AV) : Rho := G12 call n m0 (S12_5 call n m0) y0 y1 { m0 with bad := none }
theorem s12 (call : Nat → List AV → Mem → Rho) (n : Nat) (m0 : Mem) (y0 y1 : AV) : bodyK call n f12 [y0, y1] m0 = S12 call n m0 y0 y1 :=
  have h : bodyK call n f12 [y0, y1] m0 = G12 call n m0 (d12_5 call n m0) y0 y1 { m0 with bad := none } := Eq.mp (by kernel_rfl) (g12 call n m0 b12_5 y0 y1 { m0 with bad := none })
  by rw [l12_5] at h; exact h
def F12 : SF := fun call n vs m0 => unc vs fun x0 vs => unc vs fun x1 vs => unz vs (S12 call n m0 x0 x1)
theorem F12_ok {orc : List AV → Mem → Option (AV × Mem)} : SOk 12 { f12 with orc := orc } F12 := by
  intro call n vs m0 ho r h0
  simp only [F12] at h0
  obtain ⟨y0, v0, rfl, h1⟩ := unc_some h0
  obtain ⟨y1, v1, rfl, h2⟩ := unc_some h1
  obtain ⟨rfl, hz⟩ := unz_some h2
  exact bodyK_le ho rfl r (Eq.mp (by kernel_rfl) ((s12 call n m0 y0 y1).trans hz))

-- (resolvent/pos.Func).Size
def G13 (call : Nat → List AV → Mem → Rho) (n : Nat) (m0 : Mem) (y0 : AV) (m : Mem) : Rho :=
  boxK y0 m fun a0 m1 =>
  vK (aFieldAddr 0 1 a0) m1 fun a2 m3 =>
  loadK none a2 m3 fun a4 m5 =>
  vK (aLen m5 1 a4) m5 fun a6 m7 =>
  retK false false m0 [a6] m7
theorem g13 (call : Nat → List AV → Mem → Rho) (n : Nat) (m0 : Mem) (y0 : AV) (m : Mem) : evK call n b13 [(0, y0)] m (fun e m => endK f13 m0 .nrm e m) (endK f13 m0) = G13 call n m0 y0 m := by kernel_rfl
def S13 (call : Nat → List AV → Mem → Rho) (n : Nat) (m0 : Mem) (y0 : AV) : Rho := G13 call n m0 y0 { m0 with bad := none }
theorem s13 (call : Nat → List AV → Mem → Rho) (n : Nat) (m0 : Mem) (y0 : AV) : bodyK call n f13 [y0] m0 = S13 call n m0 y0 :=
  have h : bodyK call n f13 [y0] m0 = G13 call n m0 y0 { m0 with bad := none } := Eq.mp (by kernel_rfl) (g13 call n m0 y0 { m0 with bad := none })
  h
def F13 : SF := fun call n vs m0 => unc vs fun x0 vs => unz vs (S13 call n m0 x0)
theorem F13_ok {orc : List AV → Mem → Option (AV × Mem)} : SOk 13 { f13 with orc := orc } F13 := by
  intro call n vs m0 ho r h0
  simp only [F13] at h0
  obtain ⟨y0, v0, rfl, h1⟩ := unc_some h0
  obtain ⟨rfl, hz⟩ := unz_some h1
  exact bodyK_le ho rfl r (Eq.mp (by kernel_rfl) ((s13 call n m0 y0).trans hz))

-- (resolvent/pos.Func).Eval
def G14_2 (call : Nat → List AV → Mem → Rho) (n : Nat) (m0 : Mem) (y0 : AV) (m : Mem) : Rho :=
  binK .eql y0 (.int .i64 1) fun a0 =>
  retK false false m0 [a0] m
theorem g14_2 (call : Nat → List AV → Mem → Rho) (n : Nat) (m0 : Mem) (y0 : AV) (m : Mem) : evK call n b14_2 [(5, y0)] m (fun e m => endK f14 m0 .nrm e m) (endK f14 m0) = G14_2 call n m0 y0 m := by kernel_rfl
def k14_2 (call : Nat → List AV → Mem → Rho) (n : Nat) (m0 : Mem) : KN := (fun e m => endK f14 m0 .nrm e m)
def x14_2 (call : Nat → List AV → Mem → Rho) (n : Nat) (m0 : Mem) : KX := (endK f14 m0)
def S14_2 (call : Nat → List AV → Mem → Rho) (n : Nat) (m0 : Mem) (y0 : AV) (m : Mem) : Rho := G14_2 call n m0 y0 m
theorem s14_2 (call : Nat → List AV → Mem → Rho) (n : Nat) (m0 : Mem) (y0 : AV) (m : Mem) : evK call n b14_2 [(5, y0)] m (fun e m => endK f14 m0 .nrm e m) (endK f14 m0) = S14_2 call n m0 y0 m :=
  have h : evK call n b14_2 [(5, y0)] m (fun e m => endK f14 m0 .nrm e m) (endK f14 m0) = G14_2 call n m0 y0 m := Eq.mp (by kernel_rfl) (g14_2 call n m0 y0 m)
  h
def d14_2 (call : Nat → List AV → Mem → Rho) (n : Nat) (m0 : Mem) (y0 : AV) (m : Mem) : Rho := evK call n b14_2 [(5, y0)] m (k14_2 call n m0) (x14_2 call n m0)
theorem l14_2 {call : Nat → List AV → Mem → Rho} {n : Nat} {m0 : Mem} : d14_2 call n m0 = S14_2 call n m0 := by funext y0 m; exact Eq.mp (by kernel_rfl) (s14_2 call n m0 y0 m)
def G14_0 (call : Nat → List AV → Mem → Rho) (n : Nat) (kn : KN) (kx : KX) (y0 y1 y2 : AV) (m : Mem) : Rho :=
  vK (aFieldAddr 0 1 y1) m fun a0 m1 =>
  loadK none a0 m1 fun a2 m3 =>
  binK .sub y2 (.int .i64 2) fun a4 =>
  vK (aIndexAddr m3 3 a2 a4) m3 fun a5 m6 =>
  loadK (some 3) a5 m6 fun a7 m8 =>
  newK [(.int .i64 0), (.int .i64 0), (.int .i64 0)] m8 fun a9 m10 =>
  storeK 3 a9 a7 m10 fun a11 m12 =>
  vK (aFieldAddr 1 1 a9) m12 fun a13 m14 =>
  loadK none a13 m14 fun a15 m16 =>
  vK (aFieldAddr 0 1 a9) m16 fun a17 m18 =>
  loadK none a17 m18 fun a19 m20 =>
  callK call (.func 49 [] []) false [y0, a19] m20 fun a21 m22 =>
  condK a21
  (vK (aFieldAddr 2 1 a9) m22 fun a23 m24 =>
  loadK none a23 m24 fun a25 m26 =>
  kn [(1, y0), (2, y1), (5, a25)] m26)
  (kn [(1, y0), (2, y1), (5, a15), (6, a9), (30, a21)] m22)
theorem g14_0 (call : Nat → List AV → Mem → Rho) (n : Nat) (kn : KN) (kx : KX) (y0 y1 y2 : AV) (m : Mem) : evK call n b14_0 [(1, y0), (2, y1), (5, y2)] m kn kx = G14_0 call n kn kx y0 y1 y2 m := by kernel_rfl
def k14_0 (call : Nat → List AV → Mem → Rho) (n : Nat) (kn : KN) (kx : KX) : KN := kn
def x14_0 (call : Nat → List AV → Mem → Rho) (n : Nat) (kn : KN) (kx : KX) : KX := kx
def S14_0 (call : Nat → List AV → Mem → Rho) (n : Nat) (kn : KN) (kx : KX) (y0 y1 y2 : AV) (m : Mem) : Rho := G14_0 call n kn kx y0 y1 y2 m
theorem s14_0 (call : Nat → List AV → Mem → Rho) (n : Nat) (kn : KN) (kx : KX) (y0 y1 y2 : AV) (m : Mem) : evK call n b14_0 [(1, y0), (2, y1), (5, y2)] m kn kx = S14_0 call n kn kx y0 y1 y2 m :=
  have h : evK call n b14_0 [(1, y0), (2, y1), (5, y2)] m kn kx = G14_0 call n kn kx y0 y1 y2 m := Eq.mp (by kernel_rfl) (g14_0 call n kn kx y0 y1 y2 m)
  h
def d14_0 (call : Nat → List AV → Mem → Rho) (n : Nat) (kn : KN) (kx : KX) (y0 y1 y2 : AV) (m : Mem) : Rho := evK call n b14_0 [(1, y0), (2, y1), (5, y2)] m (k14_0 call n kn kx) (x14_0 call n kn kx)
theorem l14_0 {call : Nat → List AV → Mem → Rho} {n : Nat} {kn : KN} {kx : KX} : d14_0 call n kn kx = S14_0 call n kn kx := by funext y0 y1 y2 m; exact Eq.mp (by kernel_rfl) (s14_0 call n kn kx y0 y1 y2 m)
def G14_1 (call : Nat → List AV → Mem → Rho) (n : Nat) (kn : KN) (kx : KX) (Q14_0 : AV → AV → AV → Mem → Rho) (y0 y1 y2 : AV) (m : Mem) : Rho :=
  binK .geq y2 (.int .i64 2) fun a0 =>
  condK a0
  (Q14_0 y0 y1 y2 m)
  (kx (.ext 0) [(1, y0), (2, y1), (5, y2), (18, a0)] m)
theorem g14_1 (call : Nat → List AV → Mem → Rho) (n : Nat) (kn : KN) (kx : KX) (b14_0 : C) (y0 y1 y2 : AV) (m : Mem) : evK call n (c14_1 b14_0) [(1, y0), (2, y1), (5, y2)] m kn kx = G14_1 call n kn kx (fun x0 x1 x2 m => evK call n b14_0 [(1, x0), (2, x1), (5, x2)] m kn kx) y0 y1 y2 m := by kernel_rfl
def S14_1 (call : Nat → List AV → Mem → Rho) (n : Nat) (kn : KN) (kx : KX) (y0 y1 y2 : AV) (m : Mem) : Rho := G14_1 call n kn kx (S14_0 call n kn kx) y0 y1 y2 m
theorem s14_1 (call : Nat → List AV → Mem → Rho) (n : Nat) (kn : KN) (kx : KX) (y0 y1 y2 : AV) (m : Mem) : evK call n b14_1 [(1, y0), (2, y1), (5, y2)] m kn kx = S14_1 call n kn kx y0 y1 y2 m :=
  have h : evK call n b14_1 [(1, y0), (2, y1), (5, y2)] m kn kx = G14_1 call n kn kx (d14_0 call n kn kx) y0 y1 y2 m := Eq.mp (by kernel_rfl) (g14_1 call n kn kx b14_0 y0 y1 y2 m)
  by rw [l14_0] at h; exact h
def d14_1 (call : Nat → List AV → Mem → Rho) (n : Nat) (kn : KN) (kx : KX) (y0 y1 y2 : AV) (m : Mem) : Rho := evK call n b14_1 [(1, y0), (2, y1), (5, y2)] m kn kx
theorem l14_1 {call : Nat → List AV → Mem → Rho} {n : Nat} : d14_1 call n = S14_1 call n := by funext kn kx y0 y1 y2 m; exact Eq.mp (by kernel_rfl) (s14_1 call n kn kx y0 y1 y2 m)
def G14_3 (call : Nat → List AV → Mem → Rho) (n : Nat) (m0 : Mem) (B14_1 : KN → KX → AV → AV → AV → Mem → Rho) (Q14_2 : AV → Mem → Rho) (y0 y1 : AV) (m : Mem) : Rho :=
  vK (aFieldAddr 0 1 y1) m fun a0 m1 =>
  loadK none a0 m1 fun a2 m3 =>
  vK (aLen m3 1 a2) m3 fun a4 m5 =>
  binK .add a4 (.int .i64 1) fun a6 =>
  loopV [1, 2, 5] none (fun vs m kn kx => unc vs fun x0 vs => unc vs fun x1 vs => unc vs fun x2 vs => unz vs (B14_1 kn kx x0 x1 x2 m)) (blkK 0 (fun e m => keepK e [5] fun vs => unc vs fun x0 vs => unz vs (Q14_2 x0 m)) (endK f14 m0)) n [y0, y1, a6] m5
theorem g14_3 (call : Nat → List AV → Mem → Rho) (n : Nat) (m0 : Mem) (b14_1 : C) (b14_2 : C) (y0 y1 : AV) (m : Mem) : evK call n (c14_3 b14_1 b14_2) [(1, y0), (2, y1)] m (fun e m => endK f14 m0 .nrm e m) (endK f14 m0) = G14_3 call n m0 (fun kn kx x0 x1 x2 m => evK call n b14_1 [(1, x0), (2, x1), (5, x2)] m kn kx) (fun x0 m => evK call n b14_2 [(5, x0)] m (fun e m => endK f14 m0 .nrm e m) (endK f14 m0)) y0 y1 m := by kernel_rfl
def k14_3 (call : Nat → List AV → Mem → Rho) (n : Nat) (m0 : Mem) : KN := (fun e m => endK f14 m0 .nrm e m)
def x14_3 (call : Nat → List AV → Mem → Rho) (n : Nat) (m0 : Mem) : KX := (endK f14 m0)
def S14_3 (call : Nat → List AV → Mem → Rho) (n : Nat) (m0 : Mem) (y0 y1 : AV) (m : Mem) : Rho := G14_3 call n m0 (S14_1 call n) (S14_2 call n m0) y0 y1 m
theorem s14_3 (call : Nat → List AV → Mem → Rho) (n : Nat) (m0 : Mem) (y0 y1 : AV) (m : Mem) : evK call n b14_3 [(1, y0), (2, y1)] m (fun e m => endK f14 m0 .nrm e m) (endK f14 m0) = S14_3 call n m0 y0 y1 m :=
  have h : evK call n b14_3 [(1, y0), (2, y1)] m (fun e m => endK f14 m0 .nrm e m) (endK f14 m0) = G14_3 call n m0 (d14_1 call n) (d14_2 call n m0) y0 y1 m := Eq.mp (by kernel_rfl) (g14_3 call n m0 b14_1 b14_2 y0 y1 m)
  by rw [l14_1, l14_2] at h; exact h
def d14_3 (call : Nat → List AV → Mem → Rho) (n : Nat) (m0 : Mem) (y0 y1 : AV) (m : Mem) : Rho := evK call n b14_3 [(1, y0), (2, y1)] m (k14_3 call n m0) (x14_3 call n m0)
theorem l14_3 {call : Nat → List AV → Mem → Rho} {n : Nat} {m0 : Mem} : d14_3 call n m0 = S14_3 call n m0 := by funext y0 y1 m; exact Eq.mp (by kernel_rfl) (s14_3 call n m0 y0 y1 m)
def G14 (call : Nat → List AV → Mem → Rho) (n : Nat) (m0 : Mem) (Q14_3 : AV → AV → Mem → Rho) (y0 y1 : AV) (m : Mem) : Rho :=
  boxK y0 m fun a0 m1 =>
  vK (aFieldAddr 0 1 a0) m1 fun a2 m3 =>
  loadK none a2 m3 fun a4 m5 =>
  vK (aLen m5 1 a4) m5 fun a6 m7 =>
  binK .eql a6 (.int .i64 0) fun a8 =>
  condK a8
  (vK (aFieldAddr 1 1 a0) m7 fun a9 m10 =>
  loadK none a9 m10 fun a11 m12 =>
  retK false false m0 [a11] m12)
  (Q14_3 y1 a0 m7)
theorem g14 (call : Nat → List AV → Mem → Rho) (n : Nat) (m0 : Mem) (b14_3 : C) (y0 y1 : AV) (m : Mem) : evK call n (c14 b14_3) [(0, y0), (1, y1)] m (fun e m => endK f14 m0 .nrm e m) (endK f14 m0) = G14 call n m0 (fun x0 x1 m => evK call n b14_3 [(1, x0), (2, x1)] m (fun e m => endK f14 m0 .nrm e m) (endK f14 m0)) y0 y1 m := by kernel_rfl
def S14 (call : Nat → List AV → Mem → Rho) (n : Nat) (m0 : Mem) (y0 y1 : AV) : Rho := G14 call n m0 (S14_3 call n m0) y0 y1 { m0 with bad := none }
theorem s14 (call : Nat → List AV → Mem → Rho) (n : Nat) (m0 : Mem) (y0 y1 : AV) : bodyK call n f14 [y0, y1] m0 = S14 call n m0 y0 y1 :=
  have h : bodyK call n f14 [y0, y1] m0 = G14 call n m0 (d14_3 call n m0) y0 y1 { m0 with bad := none } := Eq.mp (by kernel_rfl) (g14 call n m0 b14_3 y0 y1 { m0 with bad := none })
  by rw [l14_3] at h; exact h
def F14 : SF := fun call n vs m0 => unc vs fun x0 vs => unc vs fun x1 vs => unz vs (S14 call n m0 x0 x1)
theorem F14_ok {orc : List AV → Mem → Option (AV × Mem)} : SOk 14 { f14 with orc := orc } F14 := by
  intro call n vs m0 ho r h0
  simp only [F14] at h0
  obtain ⟨y0, v0, rfl, h1⟩ := unc_some h0
  obtain ⟨y1, v1, rfl, h2⟩ := unc_some h1
  obtain ⟨rfl, hz⟩ := unz_some h2
  exact bodyK_le ho rfl r (Eq.mp (by kernel_rfl) ((s14 call n m0 y0 y1).trans hz))

-- resolvent/resolventlaw16.wakes
def G15 (call : Nat → List AV → Mem → Rho) (n : Nat) (m0 : Mem) (m : Mem) : Rho :=
  callK call (.func 25 [] []) false [(.int .i64 0)] m fun a0 m1 =>
  buildSliceK 1 [(.int .i64 0)] 2 false [(0 * 1, 1, AV.untag (.int .i64 1)), (1 * 1, 1, AV.untag (.int .i64 2))] m1 fun a2 m3 =>
  callK call (.func 12 [] []) false [(.int .i64 0), a2] m3 fun a4 m5 =>
  callK call (.func 11 [] []) false [a0, a4] m5 fun a6 m7 =>
  newK [(.list .full 0 []), (.bool false)] m7 fun a8 m9 =>
  storeK 2 a8 a6 m9 fun a10 m11 =>
  callK call (.func 25 [] []) false [(.int .i64 0)] m11 fun a12 m13 =>
  callK call (.func 25 [] []) false [(.int .i64 1)] m13 fun a14 m15 =>
  callK call (.func 11 [] []) false [a12, a14] m15 fun a16 m17 =>
  callK call (.func 24 [] []) false [a16, (.int .i64 0)] m17 fun a18 m19 =>
  newK [(.list .full 0 []), (.bool false)] m19 fun a20 m21 =>
  storeK 2 a20 a18 m21 fun a22 m23 =>
  callK call (.func 25 [] []) false [(.int .i64 0)] m23 fun a24 m25 =>
  callK call (.func 10 [] []) false [(.bool true)] m25 fun a26 m27 =>
  callK call (.func 23 [] []) false [a24, a26] m27 fun a28 m29 =>
  newK [(.list .full 0 []), (.bool false)] m29 fun a30 m31 =>
  storeK 2 a30 a28 m31 fun a32 m33 =>
  loadK (some 2) a8 m33 fun a34 m35 =>
  callK call (.func 19 [] []) false [a34, (.int .i64 1)] m35 fun a36 m37 =>
  gDK a36 true (fun k => loadK (some 2) a8 m37 fun a38 m39 =>
  k a38 m39) m37 fun r40 a41 m42 =>
  gDK a36 true (fun k => callK call (.func 19 [] []) false [a41, (.int .i64 2)] m42 fun a43 m44 =>
  k a43 m44) m42 fun r45 a46 m47 =>
  pickK a36 (some a46) (some (.bool false)) fun a48 =>
  gDK a48 true (fun k => loadK (some 2) a8 m47 fun a49 m50 =>
  k a49 m50) m47 fun r51 a52 m53 =>
  gDK a48 true (fun k => callK call (.func 19 [] []) false [a52, (.int .i64 3)] m53 fun a54 m55 =>
  k a54 m55) m53 fun r56 a57 m58 =>
  gDK a48 true (fun k => unK .not a57 fun a59 =>
  k a59 m58) m58 fun r60 a61 m62 =>
  pickK a48 (some a61) (some (.bool false)) fun a63 =>
  gDK a63 true (fun k => loadK (some 2) a20 m62 fun a64 m65 =>
  k a64 m65) m62 fun r66 a67 m68 =>
  gDK a63 true (fun k => callK call (.func 25 [] []) false [(.int .i64 1)] m68 fun a69 m70 =>
  k a69 m70) m68 fun r71 a72 m73 =>
  gDK a63 true (fun k => callK call (.func 22 [] []) false [a67, a72] m73 fun a74 m75 =>
  k a74 m75) m73 fun r76 a77 m78 =>
  pickK a63 (some a77) (some (.bool false)) fun a79 =>
  gDK a79 true (fun k => loadK (some 2) a30 m78 fun a80 m81 =>
  k a80 m81) m78 fun r82 a83 m84 =>
  gDK a79 true (fun k => callK call (.func 10 [] []) false [(.bool true)] m84 fun a85 m86 =>
  k a85 m86) m84 fun r87 a88 m89 =>
  gDK a79 true (fun k => callK call (.func 22 [] []) false [a83, a88] m89 fun a90 m91 =>
  k a90 m91) m89 fun r92 a93 m94 =>
  pickK a79 (some a93) (some (.bool false)) fun a95 =>
  gDK a95 true (fun k => loadK (some 2) a30 m94 fun a96 m97 =>
  k a96 m97) m94 fun r98 a99 m100 =>
  gDK a95 true (fun k => callK call (.func 13 [] []) false [a99] m100 fun a101 m102 =>
  k a101 m102) m100 fun r103 a104 m105 =>
  gDK a95 true (fun k => binK .eql a104 (.int .i64 0) fun a106 =>
  k a106 m105) m105 fun r107 a108 m109 =>
  pickK a95 (some a108) (some (.bool false)) fun a110 =>
  gDK a110 true (fun k => callK call (.func 25 [] []) false [(.int .i64 3)] m109 fun a111 m112 =>
  k a111 m112) m109 fun r113 a114 m115 =>
  gDK a110 true (fun k => buildSliceK 1 [(.int .i64 0)] 1 false [(0 * 1, 1, AV.untag (.int .i64 3))] m115 fun a116 m117 =>
  k a116 m117) m115 fun r118 a119 m120 =>
  gDK a110 true (fun k => callK call (.func 14 [] []) false [a114, a119] m120 fun a121 m122 =>
  k a121 m122) m120 fun r123 a124 m125 =>
  pickK a110 (some a124) (some (.bool false)) fun a126 =>
  gDK a126 true (fun k => callK call (.func 25 [] []) false [(.int .i64 3)] m125 fun a127 m128 =>
  k a127 m128) m125 fun r129 a130 m131 =>
  gDK a126 true (fun k => callK call (.func 14 [] []) false [a130, (.list .full 0 [])] m131 fun a132 m133 =>
  k a132 m133) m131 fun r134 a135 m136 =>
  gDK a126 true (fun k => unK .not a135 fun a137 =>
  k a137 m136) m136 fun r138 a139 m140 =>
  pickK a126 (some a139) (some (.bool false)) fun a141 =>
  cond (stayK [m33, m37, m47, m58, m73, m78, m89, m94, m105, m115, m125, m131, m136] [(fun m => m.load (some 2) a20, a67, 3, 2, r66), (fun m => m.load (some 2) a30, a83, 5, 2, r82)]) (retK false false m0 [a141] m140) none
theorem g15 (call : Nat → List AV → Mem → Rho) (n : Nat) (m0 : Mem) (m : Mem) : evK call n b15 [] m (fun e m => endK f15 m0 .nrm e m) (endK f15 m0) = G15 call n m0 m := by kernel_rfl
def S15 (call : Nat → List AV → Mem → Rho) (n : Nat) (m0 : Mem) : Rho := G15 call n m0 { m0 with bad := none }
theorem s15 (call : Nat → List AV → Mem → Rho) (n : Nat) (m0 : Mem) : bodyK call n f15 [] m0 = S15 call n m0 :=
  have h : bodyK call n f15 [] m0 = G15 call n m0 { m0 with bad := none } := Eq.mp (by kernel_rfl) (g15 call n m0 { m0 with bad := none })
  h
def F15 : SF := fun call n vs m0 => unz vs (S15 call n m0)
theorem F15_ok {orc : List AV → Mem → Option (AV × Mem)} : SOk 15 { f15 with orc := orc } F15 := by
  intro call n vs m0 ho r h0
  simp only [F15] at h0
  obtain ⟨rfl, hz⟩ := unz_some h0
  exact bodyK_le ho rfl r (Eq.mp (by kernel_rfl) ((s15 call n m0).trans hz))

-- (resolvent/pos.Func).Entails
def G19 (call : Nat → List AV → Mem → Rho) (n : Nat) (m0 : Mem) (y0 y1 : AV) (m : Mem) : Rho :=
  boxK y0 m fun a0 m1 =>
  loadK (some 2) a0 m1 fun a2 m3 =>
  callK call (.func 25 [] []) false [y1] m3 fun a4 m5 =>
  callK call (.func 11 [] []) false [a2, a4] m5 fun a6 m7 =>
  loadK (some 2) a0 m7 fun a8 m9 =>
  callK call (.func 22 [] []) false [a6, a8] m9 fun a10 m11 =>
  gDK a10 true (fun k => k y1 m11) m11 fun r12 a13 m14 =>
  gDK a10 true (fun k => binK .geq a13 (.int .i64 0) fun a15 =>
  k a15 m14) m14 fun r16 a17 m18 =>
  pickK a10 (some a17) (some (.bool false)) fun a19 =>
  cond (stayK [m1, m5, m7, m11] [(fun m => m.load (some 2) a0, a2, 0, 2, true), (fun m => m.load (some 2) a0, a8, 0, 3, true)]) (retK false false m0 [a19] m18) none
theorem g19 (call : Nat → List AV → Mem → Rho) (n : Nat) (m0 : Mem) (y0 y1 : AV) (m : Mem) : evK call n b19 [(0, y0), (1, y1)] m (fun e m => endK f19 m0 .nrm e m) (endK f19 m0) = G19 call n m0 y0 y1 m := by kernel_rfl
def S19 (call : Nat → List AV → Mem → Rho) (n : Nat) (m0 : Mem) (y0 y1 : AV) : Rho := G19 call n m0 y0 y1 { m0 with bad := none }
theorem s19 (call : Nat → List AV → Mem → Rho) (n : Nat) (m0 : Mem) (y0 y1 : AV) : bodyK call n f19 [y0, y1] m0 = S19 call n m0 y0 y1 :=
  have h : bodyK call n f19 [y0, y1] m0 = G19 call n m0 y0 y1 { m0 with bad := none } := Eq.mp (by kernel_rfl) (g19 call n m0 y0 y1 { m0 with bad := none })
  h
def F19 : SF := fun call n vs m0 => unc vs fun x0 vs => unc vs fun x1 vs => unz vs (S19 call n m0 x0 x1)
theorem F19_ok {orc : List AV → Mem → Option (AV × Mem)} : SOk 19 { f19 with orc := orc } F19 := by
  intro call n vs m0 ho r h0
  simp only [F19] at h0
  obtain ⟨y0, v0, rfl, h1⟩ := unc_some h0
  obtain ⟨y1, v1, rfl, h2⟩ := unc_some h1
  obtain ⟨rfl, hz⟩ := unz_some h2
  exact bodyK_le ho rfl r (Eq.mp (by kernel_rfl) ((s19 call n m0 y0 y1).trans hz))

-- (resolvent/pos.Func).Same
def G22 (call : Nat → List AV → Mem → Rho) (n : Nat) (m0 : Mem) (y0 y1 : AV) (m : Mem) : Rho :=
  boxK y0 m fun a0 m1 =>
  boxK y1 m1 fun a2 m3 =>
  vK (aFieldAddr 1 1 a0) m3 fun a4 m5 =>
  loadK none a4 m5 fun a6 m7 =>
  vK (aFieldAddr 1 1 a2) m7 fun a8 m9 =>
  loadK none a8 m9 fun a10 m11 =>
  eqvK ⟨[.b], false⟩ false a6 a10 fun a12 =>
  gK a12 true (fun k => vK (aFieldAddr 0 1 a0) m11 fun a13 m14 =>
  k a13 m14) m11 fun a15 m16 =>
  gK a12 true (fun k => loadK none a15 m16 fun a17 m18 =>
  k a17 m18) m16 fun a19 m20 =>
  gK a12 true (fun k => vK (aFieldAddr 0 1 a2) m20 fun a21 m22 =>
  k a21 m22) m20 fun a23 m24 =>
  gK a12 true (fun k => loadK none a23 m24 fun a25 m26 =>
  k a25 m26) m24 fun a27 m28 =>
  gK a12 true (fun k => callK call (.func 59 [] []) false [a19, a27] m28 fun a29 m30 =>
  k a29 m30) m28 fun a31 m32 =>
  pickK a12 (some a31) (some (.bool false)) fun a33 =>
  retK false false m0 [a33] m32
theorem g22 (call : Nat → List AV → Mem → Rho) (n : Nat) (m0 : Mem) (y0 y1 : AV) (m : Mem) : evK call n b22 [(0, y0), (1, y1)] m (fun e m => endK f22 m0 .nrm e m) (endK f22 m0) = G22 call n m0 y0 y1 m := by kernel_rfl
def S22 (call : Nat → List AV → Mem → Rho) (n : Nat) (m0 : Mem) (y0 y1 : AV) : Rho := G22 call n m0 y0 y1 { m0 with bad := none }
theorem s22 (call : Nat → List AV → Mem → Rho) (n : Nat) (m0 : Mem) (y0 y1 : AV) : bodyK call n f22 [y0, y1] m0 = S22 call n m0 y0 y1 :=
  have h : bodyK call n f22 [y0, y1] m0 = G22 call n m0 y0 y1 { m0 with bad := none } := Eq.mp (by kernel_rfl) (g22 call n m0 y0 y1 { m0 with bad := none })
  h
def F22 : SF := fun call n vs m0 => unc vs fun x0 vs => unc vs fun x1 vs => unz vs (S22 call n m0 x0 x1)
theorem F22_ok {orc : List AV → Mem → Option (AV × Mem)} : SOk 22 { f22 with orc := orc } F22 := by
  intro call n vs m0 ho r h0
  simp only [F22] at h0
  obtain ⟨y0, v0, rfl, h1⟩ := unc_some h0
  obtain ⟨y1, v1, rfl, h2⟩ := unc_some h1
  obtain ⟨rfl, hz⟩ := unz_some h2
  exact bodyK_le ho rfl r (Eq.mp (by kernel_rfl) ((s22 call n m0 y0 y1).trans hz))

-- resolvent/pos.Or
def G23 (call : Nat → List AV → Mem → Rho) (n : Nat) (m0 : Mem) (y0 y1 : AV) (m : Mem) : Rho :=
  boxK y0 m fun a0 m1 =>
  boxK y1 m1 fun a2 m3 =>
  newK [(.list .full 0 []), (.bool false)] m3 fun a4 m5 =>
  loadK (some 2) a0 m5 fun a6 m7 =>
  loadK (some 2) a2 m7 fun a8 m9 =>
  buildSliceK 2 [(.list .full 0 []), (.bool false)] 1 false [(0 * 2, 2, AV.untag a8)] m9 fun a10 m11 =>
  callK call (.func 44 [] []) false [(.func 52 [] []), a6, a10] m11 fun a12 m13 =>
  storeK 2 a4 a12 m13 fun a14 m15 =>
  loadK (some 2) a4 m15 fun a16 _ =>
  retK false false m0 [a16] m15
theorem g23 (call : Nat → List AV → Mem → Rho) (n : Nat) (m0 : Mem) (y0 y1 : AV) (m : Mem) : evK call n b23 [(0, y0), (1, y1)] m (fun e m => endK f23 m0 .nrm e m) (endK f23 m0) = G23 call n m0 y0 y1 m := by kernel_rfl
def S23 (call : Nat → List AV → Mem → Rho) (n : Nat) (m0 : Mem) (y0 y1 : AV) : Rho := G23 call n m0 y0 y1 { m0 with bad := none }
theorem s23 (call : Nat → List AV → Mem → Rho) (n : Nat) (m0 : Mem) (y0 y1 : AV) : bodyK call n f23 [y0, y1] m0 = S23 call n m0 y0 y1 :=
  have h : bodyK call n f23 [y0, y1] m0 = G23 call n m0 y0 y1 { m0 with bad := none } := Eq.mp (by kernel_rfl) (g23 call n m0 y0 y1 { m0 with bad := none })
  h
def F23 : SF := fun call n vs m0 => unc vs fun x0 vs => unc vs fun x1 vs => unz vs (S23 call n m0 x0 x1)
theorem F23_ok {orc : List AV → Mem → Option (AV × Mem)} : SOk 23 { f23 with orc := orc } F23 := by
  intro call n vs m0 ho r h0
  simp only [F23] at h0
  obtain ⟨y0, v0, rfl, h1⟩ := unc_some h0
  obtain ⟨y1, v1, rfl, h2⟩ := unc_some h1
  obtain ⟨rfl, hz⟩ := unz_some h2
  exact bodyK_le ho rfl r (Eq.mp (by kernel_rfl) ((s23 call n m0 y0 y1).trans hz))

-- resolvent/pos.Exists
def G24_0 (call : Nat → List AV → Mem → Rho) (n : Nat) (m0 : Mem) (y0 y1 y2 : AV) (m : Mem) : Rho :=
  callK call (.func 46 [] []) false [] m fun a0 m1 =>
  loadK (some 2) y1 m1 fun a2 m3 =>
  callK call (.func 48 [] []) false [a0, a2] m3 fun a4 m5 =>
  callK call (.func 60 [] []) false [a0, a4, y0, (.bool false)] m5 fun a6 m7 =>
  callK call (.func 60 [] []) false [a0, a4, y0, (.bool true)] m7 fun a8 m9 =>
  callK call (.func 47 [] []) false [a0, a6, a8, (.func 52 [] [])] m9 fun a10 m11 =>
  callK call (.func 51 [] []) false [a0, a10] m11 fun a12 m13 =>
  storeK 2 y2 a12 m13 fun a14 m15 =>
  loadK (some 2) y2 m15 fun a16 _ =>
  retK false false m0 [a16] m15
theorem g24_0 (call : Nat → List AV → Mem → Rho) (n : Nat) (m0 : Mem) (y0 y1 y2 : AV) (m : Mem) : evK call n b24_0 [(1, y0), (2, y1), (4, y2)] m (fun e m => endK f24 m0 .nrm e m) (endK f24 m0) = G24_0 call n m0 y0 y1 y2 m := by kernel_rfl
def k24_0 (call : Nat → List AV → Mem → Rho) (n : Nat) (m0 : Mem) : KN := (fun e m => endK f24 m0 .nrm e m)
def x24_0 (call : Nat → List AV → Mem → Rho) (n : Nat) (m0 : Mem) : KX := (endK f24 m0)
def S24_0 (call : Nat → List AV → Mem → Rho) (n : Nat) (m0 : Mem) (y0 y1 y2 : AV) (m : Mem) : Rho := G24_0 call n m0 y0 y1 y2 m
theorem s24_0 (call : Nat → List AV → Mem → Rho) (n : Nat) (m0 : Mem) (y0 y1 y2 : AV) (m : Mem) : evK call n b24_0 [(1, y0), (2, y1), (4, y2)] m (fun e m => endK f24 m0 .nrm e m) (endK f24 m0) = S24_0 call n m0 y0 y1 y2 m :=
  have h : evK call n b24_0 [(1, y0), (2, y1), (4, y2)] m (fun e m => endK f24 m0 .nrm e m) (endK f24 m0) = G24_0 call n m0 y0 y1 y2 m := Eq.mp (by kernel_rfl) (g24_0 call n m0 y0 y1 y2 m)
  h
def d24_0 (call : Nat → List AV → Mem → Rho) (n : Nat) (m0 : Mem) (y0 y1 y2 : AV) (m : Mem) : Rho := evK call n b24_0 [(1, y0), (2, y1), (4, y2)] m (k24_0 call n m0) (x24_0 call n m0)
theorem l24_0 {call : Nat → List AV → Mem → Rho} {n : Nat} {m0 : Mem} : d24_0 call n m0 = S24_0 call n m0 := by funext y0 y1 y2 m; exact Eq.mp (by kernel_rfl) (s24_0 call n m0 y0 y1 y2 m)
def G24 (call : Nat → List AV → Mem → Rho) (n : Nat) (m0 : Mem) (Q24_0 : AV → AV → AV → Mem → Rho) (y0 y1 : AV) (m : Mem) : Rho :=
  boxK y0 m fun a0 m1 =>
  newK [(.list .full 0 []), (.bool false)] m1 fun a2 m3 =>
  binK .lss y1 (.int .i64 0) fun a4 =>
  condK a4
  (loadK (some 2) a0 m3 fun a5 m6 =>
  storeK 2 a2 a5 m6 fun a7 m8 =>
  loadK (some 2) a2 m8 fun a9 _ =>
  retK false false m0 [a9] m8)
  (Q24_0 y1 a0 a2 m3)
theorem g24 (call : Nat → List AV → Mem → Rho) (n : Nat) (m0 : Mem) (b24_0 : C) (y0 y1 : AV) (m : Mem) : evK call n (c24 b24_0) [(0, y0), (1, y1)] m (fun e m => endK f24 m0 .nrm e m) (endK f24 m0) = G24 call n m0 (fun x0 x1 x2 m => evK call n b24_0 [(1, x0), (2, x1), (4, x2)] m (fun e m => endK f24 m0 .nrm e m) (endK f24 m0)) y0 y1 m := by kernel_rfl
def S24 (call : Nat → List AV → Mem → Rho) (n : Nat) (m0 : Mem) (y0 y1 : AV) : Rho := G24 call n m0 (S24_0 call n m0) y0 y1 { m0 with bad := none }
theorem s24 (call : Nat → List AV → Mem → Rho) (n : Nat) (m0 : Mem) (y0 y1 : AV) : bodyK call n f24 [y0, y1] m0 = S24 call n m0 y0 y1 :=
  have h : bodyK call n f24 [y0, y1] m0 = G24 call n m0 (d24_0 call n m0) y0 y1 { m0 with bad := none } := Eq.mp (by kernel_rfl) (g24 call n m0 b24_0 y0 y1 { m0 with bad := none })
  by rw [l24_0] at h; exact h
def F24 : SF := fun call n vs m0 => unc vs fun x0 vs => unc vs fun x1 vs => unz vs (S24 call n m0 x0 x1)
theorem F24_ok {orc : List AV → Mem → Option (AV × Mem)} : SOk 24 { f24 with orc := orc } F24 := by
  intro call n vs m0 ho r h0
  simp only [F24] at h0
  obtain ⟨y0, v0, rfl, h1⟩ := unc_some h0
  obtain ⟨y1, v1, rfl, h2⟩ := unc_some h1
  obtain ⟨rfl, hz⟩ := unz_some h2
  exact bodyK_le ho rfl r (Eq.mp (by kernel_rfl) ((s24 call n m0 y0 y1).trans hz))

-- resolvent/pos.Var
def G25_0 (call : Nat → List AV → Mem → Rho) (n : Nat) (m0 : Mem) (y0 y1 : AV) (m : Mem) : Rho :=
  buildK [(.int .i64 0), (.int .i64 0), (.int .i64 0)] [(0, 1, AV.untag1 y0), (1, 1, AV.untag1 (.int .i64 0)), (2, 1, AV.untag1 (.int .i64 1))] fun a0 =>
  buildSliceK 3 [(.int .i64 0), (.int .i64 0), (.int .i64 0)] 1 false [(0 * 3, 3, AV.untag a0)] m fun a1 m2 =>
  buildK [(.list .full 0 []), (.bool false)] [(0, 1, AV.untag1 a1)] fun a3 =>
  storeK 2 y1 a3 m2 fun a4 m5 =>
  loadK (some 2) y1 m5 fun a6 _ =>
  retK false false m0 [a6] m5
theorem g25_0 (call : Nat → List AV → Mem → Rho) (n : Nat) (m0 : Mem) (y0 y1 : AV) (m : Mem) : evK call n b25_0 [(0, y0), (2, y1)] m (fun e m => endK f25 m0 .nrm e m) (endK f25 m0) = G25_0 call n m0 y0 y1 m := by kernel_rfl
def k25_0 (call : Nat → List AV → Mem → Rho) (n : Nat) (m0 : Mem) : KN := (fun e m => endK f25 m0 .nrm e m)
def x25_0 (call : Nat → List AV → Mem → Rho) (n : Nat) (m0 : Mem) : KX := (endK f25 m0)
def S25_0 (call : Nat → List AV → Mem → Rho) (n : Nat) (m0 : Mem) (y0 y1 : AV) (m : Mem) : Rho := G25_0 call n m0 y0 y1 m
theorem s25_0 (call : Nat → List AV → Mem → Rho) (n : Nat) (m0 : Mem) (y0 y1 : AV) (m : Mem) : evK call n b25_0 [(0, y0), (2, y1)] m (fun e m => endK f25 m0 .nrm e m) (endK f25 m0) = S25_0 call n m0 y0 y1 m :=
  have h : evK call n b25_0 [(0, y0), (2, y1)] m (fun e m => endK f25 m0 .nrm e m) (endK f25 m0) = G25_0 call n m0 y0 y1 m := Eq.mp (by kernel_rfl) (g25_0 call n m0 y0 y1 m)
  h
def d25_0 (call : Nat → List AV → Mem → Rho) (n : Nat) (m0 : Mem) (y0 y1 : AV) (m : Mem) : Rho := evK call n b25_0 [(0, y0), (2, y1)] m (k25_0 call n m0) (x25_0 call n m0)
theorem l25_0 {call : Nat → List AV → Mem → Rho} {n : Nat} {m0 : Mem} : d25_0 call n m0 = S25_0 call n m0 := by funext y0 y1 m; exact Eq.mp (by kernel_rfl) (s25_0 call n m0 y0 y1 m)
def G25 (call : Nat → List AV → Mem → Rho) (n : Nat) (m0 : Mem) (Q25_0 : AV → AV → Mem → Rho) (y0 : AV) (m : Mem) : Rho :=
  newK [(.list .full 0 []), (.bool false)] m fun a0 m1 =>
  binK .lss y0 (.int .i64 0) fun a2 =>
  condK a2
  (callK call (.func 10 [] []) false [(.bool true)] m1 fun a3 m4 =>
  storeK 2 a0 a3 m4 fun a5 m6 =>
  loadK (some 2) a0 m6 fun a7 _ =>
  retK false false m0 [a7] m6)
  (Q25_0 y0 a0 m1)
theorem g25 (call : Nat → List AV → Mem → Rho) (n : Nat) (m0 : Mem) (b25_0 : C) (y0 : AV) (m : Mem) : evK call n (c25 b25_0) [(0, y0)] m (fun e m => endK f25 m0 .nrm e m) (endK f25 m0) = G25 call n m0 (fun x0 x1 m => evK call n b25_0 [(0, x0), (2, x1)] m (fun e m => endK f25 m0 .nrm e m) (endK f25 m0)) y0 m := by kernel_rfl
def S25 (call : Nat → List AV → Mem → Rho) (n : Nat) (m0 : Mem) (y0 : AV) : Rho := G25 call n m0 (S25_0 call n m0) y0 { m0 with bad := none }
theorem s25 (call : Nat → List AV → Mem → Rho) (n : Nat) (m0 : Mem) (y0 : AV) : bodyK call n f25 [y0] m0 = S25 call n m0 y0 :=
  have h : bodyK call n f25 [y0] m0 = G25 call n m0 (d25_0 call n m0) y0 { m0 with bad := none } := Eq.mp (by kernel_rfl) (g25 call n m0 b25_0 y0 { m0 with bad := none })
  by rw [l25_0] at h; exact h
def F25 : SF := fun call n vs m0 => unc vs fun x0 vs => unz vs (S25 call n m0 x0)
theorem F25_ok {orc : List AV → Mem → Option (AV × Mem)} : SOk 25 { f25 with orc := orc } F25 := by
  intro call n vs m0 ho r h0
  simp only [F25] at h0
  obtain ⟨y0, v0, rfl, h1⟩ := unc_some h0
  obtain ⟨rfl, hz⟩ := unz_some h1
  exact bodyK_le ho rfl r (Eq.mp (by kernel_rfl) ((s25 call n m0 y0).trans hz))

-- resolvent/pos.join
def G44_2 (call : Nat → List AV → Mem → Rho) (n : Nat) (m0 : Mem) (y0 y1 y2 : AV) (m : Mem) : Rho :=
  callK call (.func 51 [] []) false [y1, y2] m fun a0 m1 =>
  storeK 2 y0 a0 m1 fun a2 m3 =>
  loadK (some 2) y0 m3 fun a4 _ =>
  retK false false m0 [a4] m3
theorem g44_2 (call : Nat → List AV → Mem → Rho) (n : Nat) (m0 : Mem) (y0 y1 y2 : AV) (m : Mem) : evK call n b44_2 [(6, y0), (7, y1), (8, y2)] m (fun e m => endK f44 m0 .nrm e m) (endK f44 m0) = G44_2 call n m0 y0 y1 y2 m := by kernel_rfl
def k44_2 (call : Nat → List AV → Mem → Rho) (n : Nat) (m0 : Mem) : KN := (fun e m => endK f44 m0 .nrm e m)
def x44_2 (call : Nat → List AV → Mem → Rho) (n : Nat) (m0 : Mem) : KX := (endK f44 m0)
def S44_2 (call : Nat → List AV → Mem → Rho) (n : Nat) (m0 : Mem) (y0 y1 y2 : AV) (m : Mem) : Rho := G44_2 call n m0 y0 y1 y2 m
theorem s44_2 (call : Nat → List AV → Mem → Rho) (n : Nat) (m0 : Mem) (y0 y1 y2 : AV) (m : Mem) : evK call n b44_2 [(6, y0), (7, y1), (8, y2)] m (fun e m => endK f44 m0 .nrm e m) (endK f44 m0) = S44_2 call n m0 y0 y1 y2 m :=
  have h : evK call n b44_2 [(6, y0), (7, y1), (8, y2)] m (fun e m => endK f44 m0 .nrm e m) (endK f44 m0) = G44_2 call n m0 y0 y1 y2 m := Eq.mp (by kernel_rfl) (g44_2 call n m0 y0 y1 y2 m)
  h
def d44_2 (call : Nat → List AV → Mem → Rho) (n : Nat) (m0 : Mem) (y0 y1 y2 : AV) (m : Mem) : Rho := evK call n b44_2 [(6, y0), (7, y1), (8, y2)] m (k44_2 call n m0) (x44_2 call n m0)
theorem l44_2 {call : Nat → List AV → Mem → Rho} {n : Nat} {m0 : Mem} : d44_2 call n m0 = S44_2 call n m0 := by funext y0 y1 y2 m; exact Eq.mp (by kernel_rfl) (s44_2 call n m0 y0 y1 y2 m)
def G44_0 (call : Nat → List AV → Mem → Rho) (n : Nat) (kn : KN) (kx : KX) (y0 y1 y2 y3 y4 y5 y6 : AV) (m : Mem) : Rho :=
  vK (aIndexAddr m 2 y4 y6) m fun a0 m1 =>
  loadK (some 2) a0 m1 fun a2 m3 =>
  newK [(.list .full 0 []), (.bool false)] m3 fun a4 m5 =>
  storeK 2 a4 a2 m5 fun a6 m7 =>
  loadK (some 2) a4 m7 fun a8 m9 =>
  callK call (.func 48 [] []) false [y2, a8] m9 fun a10 m11 =>
  callK call (.func 47 [] []) false [y2, y3, a10, y0] m11 fun a12 m13 =>
  binK .add y6 (.int .i64 1) fun a14 =>
  kn [(0, y0), (6, y1), (7, y2), (8, a12), (15, y4), (16, y5), (17, a14)] m13
theorem g44_0 (call : Nat → List AV → Mem → Rho) (n : Nat) (kn : KN) (kx : KX) (y0 y1 y2 y3 y4 y5 y6 : AV) (m : Mem) : evK call n b44_0 [(0, y0), (6, y1), (7, y2), (8, y3), (15, y4), (16, y5), (17, y6)] m kn kx = G44_0 call n kn kx y0 y1 y2 y3 y4 y5 y6 m := by kernel_rfl
def k44_0 (call : Nat → List AV → Mem → Rho) (n : Nat) (kn : KN) (kx : KX) : KN := kn
def x44_0 (call : Nat → List AV → Mem → Rho) (n : Nat) (kn : KN) (kx : KX) : KX := kx
def S44_0 (call : Nat → List AV → Mem → Rho) (n : Nat) (kn : KN) (kx : KX) (y0 y1 y2 y3 y4 y5 y6 : AV) (m : Mem) : Rho := G44_0 call n kn kx y0 y1 y2 y3 y4 y5 y6 m
theorem s44_0 (call : Nat → List AV → Mem → Rho) (n : Nat) (kn : KN) (kx : KX) (y0 y1 y2 y3 y4 y5 y6 : AV) (m : Mem) : evK call n b44_0 [(0, y0), (6, y1), (7, y2), (8, y3), (15, y4), (16, y5), (17, y6)] m kn kx = S44_0 call n kn kx y0 y1 y2 y3 y4 y5 y6 m :=
  have h : evK call n b44_0 [(0, y0), (6, y1), (7, y2), (8, y3), (15, y4), (16, y5), (17, y6)] m kn kx = G44_0 call n kn kx y0 y1 y2 y3 y4 y5 y6 m := Eq.mp (by kernel_rfl) (g44_0 call n kn kx y0 y1 y2 y3 y4 y5 y6 m)
  h
def d44_0 (call : Nat → List AV → Mem → Rho) (n : Nat) (kn : KN) (kx : KX) (y0 y1 y2 y3 y4 y5 y6 : AV) (m : Mem) : Rho := evK call n b44_0 [(0, y0), (6, y1), (7, y2), (8, y3), (15, y4), (16, y5), (17, y6)] m (k44_0 call n kn kx) (x44_0 call n kn kx)
theorem l44_0 {call : Nat → List AV → Mem → Rho} {n : Nat} {kn : KN} {kx : KX} : d44_0 call n kn kx = S44_0 call n kn kx := by funext y0 y1 y2 y3 y4 y5 y6 m; exact Eq.mp (by kernel_rfl) (s44_0 call n kn kx y0 y1 y2 y3 y4 y5 y6 m)
def G44_1 (call : Nat → List AV → Mem → Rho) (n : Nat) (kn : KN) (kx : KX) (Q44_0 : AV → AV → AV → AV → AV → AV → AV → Mem → Rho) (y0 y1 y2 y3 y4 y5 y6 : AV) (m : Mem) : Rho :=
  binK .lss y6 y5 fun a0 =>
  condK a0
  (Q44_0 y0 y1 y2 y3 y4 y5 y6 m)
  (kx (.ext 0) [(0, y0), (6, y1), (7, y2), (8, y3), (15, y4), (16, y5), (17, y6), (18, a0)] m)
theorem g44_1 (call : Nat → List AV → Mem → Rho) (n : Nat) (kn : KN) (kx : KX) (b44_0 : C) (y0 y1 y2 y3 y4 y5 y6 : AV) (m : Mem) : evK call n (c44_1 b44_0) [(0, y0), (6, y1), (7, y2), (8, y3), (15, y4), (16, y5), (17, y6)] m kn kx = G44_1 call n kn kx (fun x0 x1 x2 x3 x4 x5 x6 m => evK call n b44_0 [(0, x0), (6, x1), (7, x2), (8, x3), (15, x4), (16, x5), (17, x6)] m kn kx) y0 y1 y2 y3 y4 y5 y6 m := by kernel_rfl
def S44_1 (call : Nat → List AV → Mem → Rho) (n : Nat) (kn : KN) (kx : KX) (y0 y1 y2 y3 y4 y5 y6 : AV) (m : Mem) : Rho := G44_1 call n kn kx (S44_0 call n kn kx) y0 y1 y2 y3 y4 y5 y6 m
theorem s44_1 (call : Nat → List AV → Mem → Rho) (n : Nat) (kn : KN) (kx : KX) (y0 y1 y2 y3 y4 y5 y6 : AV) (m : Mem) : evK call n b44_1 [(0, y0), (6, y1), (7, y2), (8, y3), (15, y4), (16, y5), (17, y6)] m kn kx = S44_1 call n kn kx y0 y1 y2 y3 y4 y5 y6 m :=
  have h : evK call n b44_1 [(0, y0), (6, y1), (7, y2), (8, y3), (15, y4), (16, y5), (17, y6)] m kn kx = G44_1 call n kn kx (d44_0 call n kn kx) y0 y1 y2 y3 y4 y5 y6 m := Eq.mp (by kernel_rfl) (g44_1 call n kn kx b44_0 y0 y1 y2 y3 y4 y5 y6 m)
  by rw [l44_0] at h; exact h
def d44_1 (call : Nat → List AV → Mem → Rho) (n : Nat) (kn : KN) (kx : KX) (y0 y1 y2 y3 y4 y5 y6 : AV) (m : Mem) : Rho := evK call n b44_1 [(0, y0), (6, y1), (7, y2), (8, y3), (15, y4), (16, y5), (17, y6)] m kn kx
theorem l44_1 {call : Nat → List AV → Mem → Rho} {n : Nat} : d44_1 call n = S44_1 call n := by funext kn kx y0 y1 y2 y3 y4 y5 y6 m; exact Eq.mp (by kernel_rfl) (s44_1 call n kn kx y0 y1 y2 y3 y4 y5 y6 m)
def G44 (call : Nat → List AV → Mem → Rho) (n : Nat) (m0 : Mem) (B44_1 : KN → KX → AV → AV → AV → AV → AV → AV → AV → Mem → Rho) (Q44_2 : AV → AV → AV → Mem → Rho) (y0 y1 y2 : AV) (m : Mem) : Rho :=
  boxK y1 m fun a0 m1 =>
  newK [(.list .full 0 []), (.bool false)] m1 fun a2 m3 =>
  callK call (.func 46 [] []) false [] m3 fun a4 m5 =>
  loadK (some 2) a0 m5 fun a6 m7 =>
  callK call (.func 48 [] []) false [a4, a6] m7 fun a8 m9 =>
  vK (aLen m9 1 y2) m9 fun a10 m11 =>
  loopV [0, 6, 7, 8, 15, 16, 17] none (fun vs m kn kx => unc vs fun x0 vs => unc vs fun x1 vs => unc vs fun x2 vs => unc vs fun x3 vs => unc vs fun x4 vs => unc vs fun x5 vs => unc vs fun x6 vs => unz vs (B44_1 kn kx x0 x1 x2 x3 x4 x5 x6 m)) (blkK 0 (fun e m => keepK e [6, 7, 8] fun vs => unc vs fun x0 vs => unc vs fun x1 vs => unc vs fun x2 vs => unz vs (Q44_2 x0 x1 x2 m)) (endK f44 m0)) n [y0, a2, a4, a8, y2, a10, (.int .i64 0)] m11
theorem g44 (call : Nat → List AV → Mem → Rho) (n : Nat) (m0 : Mem) (b44_1 : C) (b44_2 : C) (y0 y1 y2 : AV) (m : Mem) : evK call n (c44 b44_1 b44_2) [(0, y0), (1, y1), (2, y2)] m (fun e m => endK f44 m0 .nrm e m) (endK f44 m0) = G44 call n m0 (fun kn kx x0 x1 x2 x3 x4 x5 x6 m => evK call n b44_1 [(0, x0), (6, x1), (7, x2), (8, x3), (15, x4), (16, x5), (17, x6)] m kn kx) (fun x0 x1 x2 m => evK call n b44_2 [(6, x0), (7, x1), (8, x2)] m (fun e m => endK f44 m0 .nrm e m) (endK f44 m0)) y0 y1 y2 m := by kernel_rfl
def S44 (call : Nat → List AV → Mem → Rho) (n : Nat) (m0 : Mem) (y0 y1 y2 : AV) : Rho := G44 call n m0 (S44_1 call n) (S44_2 call n m0) y0 y1 y2 { m0 with bad := none }
theorem s44 (call : Nat → List AV → Mem → Rho) (n : Nat) (m0 : Mem) (y0 y1 y2 : AV) : bodyK call n f44 [y0, y1, y2] m0 = S44 call n m0 y0 y1 y2 :=
  have h : bodyK call n f44 [y0, y1, y2] m0 = G44 call n m0 (d44_1 call n) (d44_2 call n m0) y0 y1 y2 { m0 with bad := none } := Eq.mp (by kernel_rfl) (g44 call n m0 b44_1 b44_2 y0 y1 y2 { m0 with bad := none })
  by rw [l44_1, l44_2] at h; exact h
def F44 : SF := fun call n vs m0 => unc vs fun x0 vs => unc vs fun x1 vs => unc vs fun x2 vs => unz vs (S44 call n m0 x0 x1 x2)
theorem F44_ok {orc : List AV → Mem → Option (AV × Mem)} : SOk 44 { f44 with orc := orc } F44 := by
  intro call n vs m0 ho r h0
  simp only [F44] at h0
  obtain ⟨y0, v0, rfl, h1⟩ := unc_some h0
  obtain ⟨y1, v1, rfl, h2⟩ := unc_some h1
  obtain ⟨y2, v2, rfl, h3⟩ := unc_some h2
  obtain ⟨rfl, hz⟩ := unz_some h3
  exact bodyK_le ho rfl r (Eq.mp (by kernel_rfl) ((s44 call n m0 y0 y1 y2).trans hz))

-- resolvent/pos.and
def G45_0 (call : Nat → List AV → Mem → Rho) (n : Nat) (m0 : Mem) (m : Mem) : Rho :=
  retK false false m0 [(.int .i64 0), (.bool false)] m
theorem g45_0 (call : Nat → List AV → Mem → Rho) (n : Nat) (m0 : Mem) (m : Mem) : evK call n b45_0 [] m (fun e m => endK f45 m0 .nrm e m) (endK f45 m0) = G45_0 call n m0 m := by kernel_rfl
def k45_0 (call : Nat → List AV → Mem → Rho) (n : Nat) (m0 : Mem) : KN := (fun e m => endK f45 m0 .nrm e m)
def x45_0 (call : Nat → List AV → Mem → Rho) (n : Nat) (m0 : Mem) : KX := (endK f45 m0)
def S45_0 (call : Nat → List AV → Mem → Rho) (n : Nat) (m0 : Mem) (m : Mem) : Rho := G45_0 call n m0 m
theorem s45_0 (call : Nat → List AV → Mem → Rho) (n : Nat) (m0 : Mem) (m : Mem) : evK call n b45_0 [] m (fun e m => endK f45 m0 .nrm e m) (endK f45 m0) = S45_0 call n m0 m :=
  have h : evK call n b45_0 [] m (fun e m => endK f45 m0 .nrm e m) (endK f45 m0) = G45_0 call n m0 m := Eq.mp (by kernel_rfl) (g45_0 call n m0 m)
  h
def d45_0 (call : Nat → List AV → Mem → Rho) (n : Nat) (m0 : Mem) (m : Mem) : Rho := evK call n b45_0 [] m (k45_0 call n m0) (x45_0 call n m0)
theorem l45_0 {call : Nat → List AV → Mem → Rho} {n : Nat} {m0 : Mem} : d45_0 call n m0 = S45_0 call n m0 := by funext m; exact Eq.mp (by kernel_rfl) (s45_0 call n m0 m)
def G45 (call : Nat → List AV → Mem → Rho) (n : Nat) (m0 : Mem) (Q45_0 : Mem → Rho) (y0 y1 : AV) (m : Mem) : Rho :=
  binK .eql y0 (.int .i64 0) fun a0 =>
  gK a0 false (fun k => k y1 m) m fun a1 m2 =>
  gK a0 false (fun k => binK .eql a1 (.int .i64 0) fun a3 =>
  k a3 m2) m2 fun a4 m5 =>
  pickK a0 (some (.bool true)) (some a4) fun a6 =>
  condK a6
  (retK false false m0 [(.int .i64 0), (.bool true)] m5)
  (binK .eql y0 (.int .i64 1) fun a7 =>
  condK a7
  (retK false false m0 [y1, (.bool true)] m5)
  (binK .eql y1 (.int .i64 1) fun a8 =>
  gK a8 false (fun k => k y0 m5) m5 fun a9 m10 =>
  gK a8 false (fun k => k y1 m10) m10 fun a11 m12 =>
  gK a8 false (fun k => binK .eql a9 a11 fun a13 =>
  k a13 m12) m12 fun a14 m15 =>
  pickK a8 (some (.bool true)) (some a14) fun a16 =>
  condK a16
  (retK false false m0 [y0, (.bool true)] m15)
  (Q45_0 m15)))
theorem g45 (call : Nat → List AV → Mem → Rho) (n : Nat) (m0 : Mem) (b45_0 : C) (y0 y1 : AV) (m : Mem) : evK call n (c45 b45_0) [(0, y0), (1, y1)] m (fun e m => endK f45 m0 .nrm e m) (endK f45 m0) = G45 call n m0 (fun m => evK call n b45_0 [] m (fun e m => endK f45 m0 .nrm e m) (endK f45 m0)) y0 y1 m := by kernel_rfl
def S45 (call : Nat → List AV → Mem → Rho) (n : Nat) (m0 : Mem) (y0 y1 : AV) : Rho := G45 call n m0 (S45_0 call n m0) y0 y1 { m0 with bad := none }
theorem s45 (call : Nat → List AV → Mem → Rho) (n : Nat) (m0 : Mem) (y0 y1 : AV) : bodyK call n f45 [y0, y1] m0 = S45 call n m0 y0 y1 :=
  have h : bodyK call n f45 [y0, y1] m0 = G45 call n m0 (d45_0 call n m0) y0 y1 { m0 with bad := none } := Eq.mp (by kernel_rfl) (g45 call n m0 b45_0 y0 y1 { m0 with bad := none })
  by rw [l45_0] at h; exact h
def F45 : SF := fun call n vs m0 => unc vs fun x0 vs => unc vs fun x1 vs => unz vs (S45 call n m0 x0 x1)
theorem F45_ok {orc : List AV → Mem → Option (AV × Mem)} : SOk 45 { f45 with orc := orc } F45 := by
  intro call n vs m0 ho r h0
  simp only [F45] at h0
  obtain ⟨y0, v0, rfl, h1⟩ := unc_some h0
  obtain ⟨y1, v1, rfl, h2⟩ := unc_some h1
  obtain ⟨rfl, hz⟩ := unz_some h2
  exact bodyK_le ho rfl r (Eq.mp (by kernel_rfl) ((s45 call n m0 y0 y1).trans hz))

-- resolvent/pos.open
def G46 (call : Nat → List AV → Mem → Rho) (n : Nat) (m0 : Mem) (m : Mem) : Rho :=
  makeMapK m fun a0 m1 =>
  buildTK [(.list .full 0 []), .nilmap] 0 3 [(1, 1, AV.untag1 a0)] m1 fun a2 m3 =>
  boxK a2 m3 fun a4 m5 =>
  retK false false m0 [a4] m5
theorem g46 (call : Nat → List AV → Mem → Rho) (n : Nat) (m0 : Mem) (m : Mem) : evK call n b46 [] m (fun e m => endK f46 m0 .nrm e m) (endK f46 m0) = G46 call n m0 m := by kernel_rfl
def S46 (call : Nat → List AV → Mem → Rho) (n : Nat) (m0 : Mem) : Rho := G46 call n m0 { m0 with bad := none }
theorem s46 (call : Nat → List AV → Mem → Rho) (n : Nat) (m0 : Mem) : bodyK call n f46 [] m0 = S46 call n m0 :=
  have h : bodyK call n f46 [] m0 = G46 call n m0 { m0 with bad := none } := Eq.mp (by kernel_rfl) (g46 call n m0 { m0 with bad := none })
  h
def F46 : SF := fun call n vs m0 => unz vs (S46 call n m0)
theorem F46_ok {orc : List AV → Mem → Option (AV × Mem)} : SOk 46 { f46 with orc := orc } F46 := by
  intro call n vs m0 ho r h0
  simp only [F46] at h0
  obtain ⟨rfl, hz⟩ := unz_some h0
  exact bodyK_le ho rfl r (Eq.mp (by kernel_rfl) ((s46 call n m0).trans hz))

-- (*resolvent/pos.table).both
def G47 (call : Nat → List AV → Mem → Rho) (n : Nat) (m0 : Mem) (y0 y1 y2 y3 : AV) (m : Mem) : Rho :=
  boxK y0 m fun a0 m1 =>
  boxK y3 m1 fun a2 m3 =>
  makeMapK m3 fun a4 m5 =>
  newK [.nilmap] m5 fun a6 m7 =>
  storeK 1 a6 a4 m7 fun a8 m9 =>
  newK [.nilfunc] m9 fun a10 m11 =>
  storeK 1 a10 (.func 75 [] [a2, a6, a0, a10]) m11 fun a12 m13 =>
  loadK none a10 m13 fun a14 m15 =>
  callK call a14 false [y1, y2] m15 fun a16 m17 =>
  retK false false m0 [a16] m17
theorem g47 (call : Nat → List AV → Mem → Rho) (n : Nat) (m0 : Mem) (y0 y1 y2 y3 : AV) (m : Mem) : evK call n b47 [(0, y0), (1, y1), (2, y2), (3, y3)] m (fun e m => endK f47 m0 .nrm e m) (endK f47 m0) = G47 call n m0 y0 y1 y2 y3 m := by kernel_rfl
def S47 (call : Nat → List AV → Mem → Rho) (n : Nat) (m0 : Mem) (y0 y1 y2 y3 : AV) : Rho := G47 call n m0 y0 y1 y2 y3 { m0 with bad := none }
theorem s47 (call : Nat → List AV → Mem → Rho) (n : Nat) (m0 : Mem) (y0 y1 y2 y3 : AV) : bodyK call n f47 [y0, y1, y2, y3] m0 = S47 call n m0 y0 y1 y2 y3 :=
  have h : bodyK call n f47 [y0, y1, y2, y3] m0 = G47 call n m0 y0 y1 y2 y3 { m0 with bad := none } := Eq.mp (by kernel_rfl) (g47 call n m0 y0 y1 y2 y3 { m0 with bad := none })
  h
def F47 : SF := fun call n vs m0 => unc vs fun x0 vs => unc vs fun x1 vs => unc vs fun x2 vs => unc vs fun x3 vs => unz vs (S47 call n m0 x0 x1 x2 x3)
theorem F47_ok {orc : List AV → Mem → Option (AV × Mem)} : SOk 47 { f47 with orc := orc } F47 := by
  intro call n vs m0 ho r h0
  simp only [F47] at h0
  obtain ⟨y0, v0, rfl, h1⟩ := unc_some h0
  obtain ⟨y1, v1, rfl, h2⟩ := unc_some h1
  obtain ⟨y2, v2, rfl, h3⟩ := unc_some h2
  obtain ⟨y3, v3, rfl, h4⟩ := unc_some h3
  obtain ⟨rfl, hz⟩ := unz_some h4
  exact bodyK_le ho rfl r (Eq.mp (by kernel_rfl) ((s47 call n m0 y0 y1 y2 y3).trans hz))

-- (*resolvent/pos.table).put
def G48_3 (call : Nat → List AV → Mem → Rho) (n : Nat) (m0 : Mem) (y0 : AV) (m : Mem) : Rho :=
  vK (aLen m 1 y0) m fun a0 m1 =>
  binK .sub a0 (.int .i64 1) fun a2 =>
  vK (aIndexAddr m1 1 y0 a2) m1 fun a3 m4 =>
  loadK none a3 m4 fun a5 m6 =>
  retK false false m0 [a5] m6
theorem g48_3 (call : Nat → List AV → Mem → Rho) (n : Nat) (m0 : Mem) (y0 : AV) (m : Mem) : evK call n b48_3 [(5, y0)] m (fun e m => endK f48 m0 .nrm e m) (endK f48 m0) = G48_3 call n m0 y0 m := by kernel_rfl
def k48_3 (call : Nat → List AV → Mem → Rho) (n : Nat) (m0 : Mem) : KN := (fun e m => endK f48 m0 .nrm e m)
def x48_3 (call : Nat → List AV → Mem → Rho) (n : Nat) (m0 : Mem) : KX := (endK f48 m0)
def S48_3 (call : Nat → List AV → Mem → Rho) (n : Nat) (m0 : Mem) (y0 : AV) (m : Mem) : Rho := G48_3 call n m0 y0 m
theorem s48_3 (call : Nat → List AV → Mem → Rho) (n : Nat) (m0 : Mem) (y0 : AV) (m : Mem) : evK call n b48_3 [(5, y0)] m (fun e m => endK f48 m0 .nrm e m) (endK f48 m0) = S48_3 call n m0 y0 m :=
  have h : evK call n b48_3 [(5, y0)] m (fun e m => endK f48 m0 .nrm e m) (endK f48 m0) = G48_3 call n m0 y0 m := Eq.mp (by kernel_rfl) (g48_3 call n m0 y0 m)
  h
def d48_3 (call : Nat → List AV → Mem → Rho) (n : Nat) (m0 : Mem) (y0 : AV) (m : Mem) : Rho := evK call n b48_3 [(5, y0)] m (k48_3 call n m0) (x48_3 call n m0)
theorem l48_3 {call : Nat → List AV → Mem → Rho} {n : Nat} {m0 : Mem} : d48_3 call n m0 = S48_3 call n m0 := by funext y0 m; exact Eq.mp (by kernel_rfl) (s48_3 call n m0 y0 m)
def G48_4 (call : Nat → List AV → Mem → Rho) (n : Nat) (m0 : Mem) (Q48_3 : AV → Mem → Rho) (y0 y1 : AV) (m : Mem) : Rho :=
  vK (aFieldAddr 0 1 y0) m fun a0 m1 =>
  loadK none a0 m1 fun a2 m3 =>
  vK (aLen m3 1 a2) m3 fun a4 m5 =>
  binK .eql a4 (.int .i64 0) fun a6 =>
  condK a6
  (vK (aFieldAddr 1 1 y0) m5 fun a7 m8 =>
  loadK none a7 m8 fun a9 m10 =>
  callK call (.func 78 [] []) false [a9] m10 fun a11 m12 =>
  retK false false m0 [a11] m12)
  (Q48_3 y1 m5)
theorem g48_4 (call : Nat → List AV → Mem → Rho) (n : Nat) (m0 : Mem) (b48_3 : C) (y0 y1 : AV) (m : Mem) : evK call n (c48_4 b48_3) [(3, y0), (5, y1)] m (fun e m => endK f48 m0 .nrm e m) (endK f48 m0) = G48_4 call n m0 (fun x0 m => evK call n b48_3 [(5, x0)] m (fun e m => endK f48 m0 .nrm e m) (endK f48 m0)) y0 y1 m := by kernel_rfl
def k48_4 (call : Nat → List AV → Mem → Rho) (n : Nat) (m0 : Mem) : KN := (fun e m => endK f48 m0 .nrm e m)
def x48_4 (call : Nat → List AV → Mem → Rho) (n : Nat) (m0 : Mem) : KX := (endK f48 m0)
def S48_4 (call : Nat → List AV → Mem → Rho) (n : Nat) (m0 : Mem) (y0 y1 : AV) (m : Mem) : Rho := G48_4 call n m0 (S48_3 call n m0) y0 y1 m
theorem s48_4 (call : Nat → List AV → Mem → Rho) (n : Nat) (m0 : Mem) (y0 y1 : AV) (m : Mem) : evK call n b48_4 [(3, y0), (5, y1)] m (fun e m => endK f48 m0 .nrm e m) (endK f48 m0) = S48_4 call n m0 y0 y1 m :=
  have h : evK call n b48_4 [(3, y0), (5, y1)] m (fun e m => endK f48 m0 .nrm e m) (endK f48 m0) = G48_4 call n m0 (d48_3 call n m0) y0 y1 m := Eq.mp (by kernel_rfl) (g48_4 call n m0 b48_3 y0 y1 m)
  by rw [l48_3] at h; exact h
def d48_4 (call : Nat → List AV → Mem → Rho) (n : Nat) (m0 : Mem) (y0 y1 : AV) (m : Mem) : Rho := evK call n b48_4 [(3, y0), (5, y1)] m (k48_4 call n m0) (x48_4 call n m0)
theorem l48_4 {call : Nat → List AV → Mem → Rho} {n : Nat} {m0 : Mem} : d48_4 call n m0 = S48_4 call n m0 := by funext y0 y1 m; exact Eq.mp (by kernel_rfl) (s48_4 call n m0 y0 y1 m)
def G48_1 (call : Nat → List AV → Mem → Rho) (n : Nat) (kn : KN) (kx : KX) (y0 y1 y2 y3 y4 y5 : AV) (m : Mem) : Rho :=
  vK (aIndexAddr m 3 y3 y5) m fun a0 m1 =>
  loadK (some 3) a0 m1 fun a2 m3 =>
  newK [(.int .i64 0), (.int .i64 0), (.int .i64 0)] m3 fun a4 m5 =>
  storeK 3 a4 a2 m5 fun a6 m7 =>
  vK (aFieldAddr 0 1 a4) m7 fun a8 m9 =>
  loadK none a8 m9 fun a10 m11 =>
  vK (aFieldAddr 1 1 a4) m11 fun a12 m13 =>
  loadK none a12 m13 fun a14 m15 =>
  vK (aIndexAddr m15 1 y2 a14) m15 fun a16 m17 =>
  loadK none a16 m17 fun a18 m19 =>
  vK (aFieldAddr 2 1 a4) m19 fun a20 m21 =>
  loadK none a20 m21 fun a22 m23 =>
  vK (aIndexAddr m23 1 y2 a22) m23 fun a24 m25 =>
  loadK none a24 m25 fun a26 m27 =>
  buildK [(.int .i64 0), (.int .i64 0), (.int .i64 0)] [(0, 1, AV.untag1 a10), (1, 1, AV.untag1 a18), (2, 1, AV.untag1 a26)] fun a28 =>
  callK call (.func 50 [] []) false [y0, a28] m27 fun a29 m30 =>
  buildSliceK 1 [(.int .i64 0)] 1 false [(0 * 1, 1, AV.untag a29)] m30 fun a31 m32 =>
  appendK 1 8 0 y2 a31 m32 fun a33 m34 =>
  cond (stayK [m7, m30, m34] []) (binK .add y5 (.int .i64 1) fun a35 =>
  kn [(0, y0), (3, y1), (5, a33), (10, y3), (11, y4), (12, a35)] m34) none
theorem g48_1 (call : Nat → List AV → Mem → Rho) (n : Nat) (kn : KN) (kx : KX) (y0 y1 y2 y3 y4 y5 : AV) (m : Mem) : evK call n b48_1 [(0, y0), (3, y1), (5, y2), (10, y3), (11, y4), (12, y5)] m kn kx = G48_1 call n kn kx y0 y1 y2 y3 y4 y5 m := by kernel_rfl
def k48_1 (call : Nat → List AV → Mem → Rho) (n : Nat) (kn : KN) (kx : KX) : KN := kn
def x48_1 (call : Nat → List AV → Mem → Rho) (n : Nat) (kn : KN) (kx : KX) : KX := kx
def S48_1 (call : Nat → List AV → Mem → Rho) (n : Nat) (kn : KN) (kx : KX) (y0 y1 y2 y3 y4 y5 : AV) (m : Mem) : Rho := G48_1 call n kn kx y0 y1 y2 y3 y4 y5 m
theorem s48_1 (call : Nat → List AV → Mem → Rho) (n : Nat) (kn : KN) (kx : KX) (y0 y1 y2 y3 y4 y5 : AV) (m : Mem) : evK call n b48_1 [(0, y0), (3, y1), (5, y2), (10, y3), (11, y4), (12, y5)] m kn kx = S48_1 call n kn kx y0 y1 y2 y3 y4 y5 m :=
  have h : evK call n b48_1 [(0, y0), (3, y1), (5, y2), (10, y3), (11, y4), (12, y5)] m kn kx = G48_1 call n kn kx y0 y1 y2 y3 y4 y5 m := Eq.mp (by kernel_rfl) (g48_1 call n kn kx y0 y1 y2 y3 y4 y5 m)
  h
def d48_1 (call : Nat → List AV → Mem → Rho) (n : Nat) (kn : KN) (kx : KX) (y0 y1 y2 y3 y4 y5 : AV) (m : Mem) : Rho := evK call n b48_1 [(0, y0), (3, y1), (5, y2), (10, y3), (11, y4), (12, y5)] m (k48_1 call n kn kx) (x48_1 call n kn kx)
theorem l48_1 {call : Nat → List AV → Mem → Rho} {n : Nat} {kn : KN} {kx : KX} : d48_1 call n kn kx = S48_1 call n kn kx := by funext y0 y1 y2 y3 y4 y5 m; exact Eq.mp (by kernel_rfl) (s48_1 call n kn kx y0 y1 y2 y3 y4 y5 m)
def G48_2 (call : Nat → List AV → Mem → Rho) (n : Nat) (kn : KN) (kx : KX) (Q48_1 : AV → AV → AV → AV → AV → AV → Mem → Rho) (y0 y1 y2 y3 y4 y5 : AV) (m : Mem) : Rho :=
  binK .lss y5 y4 fun a0 =>
  condK a0
  (Q48_1 y0 y1 y2 y3 y4 y5 m)
  (kx (.ext 0) [(0, y0), (3, y1), (5, y2), (10, y3), (11, y4), (12, y5), (13, a0)] m)
theorem g48_2 (call : Nat → List AV → Mem → Rho) (n : Nat) (kn : KN) (kx : KX) (b48_1 : C) (y0 y1 y2 y3 y4 y5 : AV) (m : Mem) : evK call n (c48_2 b48_1) [(0, y0), (3, y1), (5, y2), (10, y3), (11, y4), (12, y5)] m kn kx = G48_2 call n kn kx (fun x0 x1 x2 x3 x4 x5 m => evK call n b48_1 [(0, x0), (3, x1), (5, x2), (10, x3), (11, x4), (12, x5)] m kn kx) y0 y1 y2 y3 y4 y5 m := by kernel_rfl
def S48_2 (call : Nat → List AV → Mem → Rho) (n : Nat) (kn : KN) (kx : KX) (y0 y1 y2 y3 y4 y5 : AV) (m : Mem) : Rho := G48_2 call n kn kx (S48_1 call n kn kx) y0 y1 y2 y3 y4 y5 m
theorem s48_2 (call : Nat → List AV → Mem → Rho) (n : Nat) (kn : KN) (kx : KX) (y0 y1 y2 y3 y4 y5 : AV) (m : Mem) : evK call n b48_2 [(0, y0), (3, y1), (5, y2), (10, y3), (11, y4), (12, y5)] m kn kx = S48_2 call n kn kx y0 y1 y2 y3 y4 y5 m :=
  have h : evK call n b48_2 [(0, y0), (3, y1), (5, y2), (10, y3), (11, y4), (12, y5)] m kn kx = G48_2 call n kn kx (d48_1 call n kn kx) y0 y1 y2 y3 y4 y5 m := Eq.mp (by kernel_rfl) (g48_2 call n kn kx b48_1 y0 y1 y2 y3 y4 y5 m)
  by rw [l48_1] at h; exact h
def d48_2 (call : Nat → List AV → Mem → Rho) (n : Nat) (kn : KN) (kx : KX) (y0 y1 y2 y3 y4 y5 : AV) (m : Mem) : Rho := evK call n b48_2 [(0, y0), (3, y1), (5, y2), (10, y3), (11, y4), (12, y5)] m kn kx
theorem l48_2 {call : Nat → List AV → Mem → Rho} {n : Nat} : d48_2 call n = S48_2 call n := by funext kn kx y0 y1 y2 y3 y4 y5 m; exact Eq.mp (by kernel_rfl) (s48_2 call n kn kx y0 y1 y2 y3 y4 y5 m)
def G48 (call : Nat → List AV → Mem → Rho) (n : Nat) (m0 : Mem) (B48_2 : KN → KX → AV → AV → AV → AV → AV → AV → Mem → Rho) (Q48_4 : AV → AV → Mem → Rho) (y0 y1 : AV) (m : Mem) : Rho :=
  boxK y1 m fun a0 m1 =>
  buildSliceK 1 [(.int .i64 0)] 2 false [(0 * 1, 1, AV.untag (.int .i64 0)), (1 * 1, 1, AV.untag (.int .i64 1))] m1 fun a2 m3 =>
  vK (aFieldAddr 0 1 a0) m3 fun a4 m5 =>
  loadK none a4 m5 fun a6 m7 =>
  vK (aLen m7 1 a6) m7 fun a8 m9 =>
  loopV [0, 3, 5, 10, 11, 12] none (fun vs m kn kx => unc vs fun x0 vs => unc vs fun x1 vs => unc vs fun x2 vs => unc vs fun x3 vs => unc vs fun x4 vs => unc vs fun x5 vs => unz vs (B48_2 kn kx x0 x1 x2 x3 x4 x5 m)) (blkK 0 (fun e m => keepK e [3, 5] fun vs => unc vs fun x0 vs => unc vs fun x1 vs => unz vs (Q48_4 x0 x1 m)) (endK f48 m0)) n [y0, a0, a2, a6, a8, (.int .i64 0)] m9
theorem g48 (call : Nat → List AV → Mem → Rho) (n : Nat) (m0 : Mem) (b48_2 : C) (b48_4 : C) (y0 y1 : AV) (m : Mem) : evK call n (c48 b48_2 b48_4) [(0, y0), (1, y1)] m (fun e m => endK f48 m0 .nrm e m) (endK f48 m0) = G48 call n m0 (fun kn kx x0 x1 x2 x3 x4 x5 m => evK call n b48_2 [(0, x0), (3, x1), (5, x2), (10, x3), (11, x4), (12, x5)] m kn kx) (fun x0 x1 m => evK call n b48_4 [(3, x0), (5, x1)] m (fun e m => endK f48 m0 .nrm e m) (endK f48 m0)) y0 y1 m := by kernel_rfl
def S48 (call : Nat → List AV → Mem → Rho) (n : Nat) (m0 : Mem) (y0 y1 : AV) : Rho := G48 call n m0 (S48_2 call n) (S48_4 call n m0) y0 y1 { m0 with bad := none }
theorem s48 (call : Nat → List AV → Mem → Rho) (n : Nat) (m0 : Mem) (y0 y1 : AV) : bodyK call n f48 [y0, y1] m0 = S48 call n m0 y0 y1 :=
  have h : bodyK call n f48 [y0, y1] m0 = G48 call n m0 (d48_2 call n) (d48_4 call n m0) y0 y1 { m0 with bad := none } := Eq.mp (by kernel_rfl) (g48 call n m0 b48_2 b48_4 y0 y1 { m0 with bad := none })
  by rw [l48_2, l48_4] at h; exact h
def F48 : SF := fun call n vs m0 => unc vs fun x0 vs => unc vs fun x1 vs => unz vs (S48 call n m0 x0 x1)
theorem F48_ok {orc : List AV → Mem → Option (AV × Mem)} : SOk 48 { f48 with orc := orc } F48 := by
  intro call n vs m0 ho r h0
  simp only [F48] at h0
  obtain ⟨y0, v0, rfl, h1⟩ := unc_some h0
  obtain ⟨y1, v1, rfl, h2⟩ := unc_some h1
  obtain ⟨rfl, hz⟩ := unz_some h2
  exact bodyK_le ho rfl r (Eq.mp (by kernel_rfl) ((s48 call n m0 y0 y1).trans hz))

-- slices.Contains[[]int,int]
def G49 (call : Nat → List AV → Mem → Rho) (n : Nat) (m0 : Mem) (y0 y1 : AV) (m : Mem) : Rho :=
  callK call (.func 79 [] []) false [y0, y1] m fun a0 m1 =>
  binK .geq a0 (.int .i64 0) fun a2 =>
  retK false false m0 [a2] m1
theorem g49 (call : Nat → List AV → Mem → Rho) (n : Nat) (m0 : Mem) (y0 y1 : AV) (m : Mem) : evK call n b49 [(0, y0), (1, y1)] m (fun e m => endK f49 m0 .nrm e m) (endK f49 m0) = G49 call n m0 y0 y1 m := by kernel_rfl
def S49 (call : Nat → List AV → Mem → Rho) (n : Nat) (m0 : Mem) (y0 y1 : AV) : Rho := G49 call n m0 y0 y1 { m0 with bad := none }
theorem s49 (call : Nat → List AV → Mem → Rho) (n : Nat) (m0 : Mem) (y0 y1 : AV) : bodyK call n f49 [y0, y1] m0 = S49 call n m0 y0 y1 :=
  have h : bodyK call n f49 [y0, y1] m0 = G49 call n m0 y0 y1 { m0 with bad := none } := Eq.mp (by kernel_rfl) (g49 call n m0 y0 y1 { m0 with bad := none })
  h
def F49 : SF := fun call n vs m0 => unc vs fun x0 vs => unc vs fun x1 vs => unz vs (S49 call n m0 x0 x1)
theorem F49_ok {orc : List AV → Mem → Option (AV × Mem)} : SOk 49 { f49 with orc := orc } F49 := by
  intro call n vs m0 ho r h0
  simp only [F49] at h0
  obtain ⟨y0, v0, rfl, h1⟩ := unc_some h0
  obtain ⟨y1, v1, rfl, h2⟩ := unc_some h1
  obtain ⟨rfl, hz⟩ := unz_some h2
  exact bodyK_le ho rfl r (Eq.mp (by kernel_rfl) ((s49 call n m0 y0 y1).trans hz))

-- (*resolvent/pos.table).make
def G50_4 (call : Nat → List AV → Mem → Rho) (n : Nat) (m0 : Mem) (y0 y1 : AV) (m : Mem) : Rho :=
  nilK y0 fun a0 =>
  vK (aFieldAddr 1 1 a0) m fun a1 m2 =>
  loadK none a1 m2 fun a3 m4 =>
  loadK (some 3) y1 m4 fun a5 m6 =>
  lookupK ⟨[.i, .i, .i], true⟩ (.int .i64 0) false a3 a5 m6 fun a7 =>
  retK false false m0 [a7] m6
theorem g50_4 (call : Nat → List AV → Mem → Rho) (n : Nat) (m0 : Mem) (y0 y1 : AV) (m : Mem) : evK call n b50_4 [(0, y0), (3, y1)] m (fun e m => endK f50 m0 .nrm e m) (endK f50 m0) = G50_4 call n m0 y0 y1 m := by kernel_rfl
def k50_4 (call : Nat → List AV → Mem → Rho) (n : Nat) (m0 : Mem) : KN := (fun e m => endK f50 m0 .nrm e m)
def x50_4 (call : Nat → List AV → Mem → Rho) (n : Nat) (m0 : Mem) : KX := (endK f50 m0)
def S50_4 (call : Nat → List AV → Mem → Rho) (n : Nat) (m0 : Mem) (y0 y1 : AV) (m : Mem) : Rho := G50_4 call n m0 y0 y1 m
theorem s50_4 (call : Nat → List AV → Mem → Rho) (n : Nat) (m0 : Mem) (y0 y1 : AV) (m : Mem) : evK call n b50_4 [(0, y0), (3, y1)] m (fun e m => endK f50 m0 .nrm e m) (endK f50 m0) = S50_4 call n m0 y0 y1 m :=
  have h : evK call n b50_4 [(0, y0), (3, y1)] m (fun e m => endK f50 m0 .nrm e m) (endK f50 m0) = G50_4 call n m0 y0 y1 m := Eq.mp (by kernel_rfl) (g50_4 call n m0 y0 y1 m)
  h
def d50_4 (call : Nat → List AV → Mem → Rho) (n : Nat) (m0 : Mem) (y0 y1 : AV) (m : Mem) : Rho := evK call n b50_4 [(0, y0), (3, y1)] m (k50_4 call n m0) (x50_4 call n m0)
theorem l50_4 {call : Nat → List AV → Mem → Rho} {n : Nat} {m0 : Mem} : d50_4 call n m0 = S50_4 call n m0 := by funext y0 y1 m; exact Eq.mp (by kernel_rfl) (s50_4 call n m0 y0 y1 m)
def G50_5 (call : Nat → List AV → Mem → Rho) (n : Nat) (m0 : Mem) (Q50_4 : AV → AV → Mem → Rho) (y0 y1 : AV) (m : Mem) : Rho :=
  nilK y0 fun a0 =>
  vK (aFieldAddr 1 1 a0) m fun a1 m2 =>
  loadK none a1 m2 fun a3 m4 =>
  loadK (some 3) y1 m4 fun a5 m6 =>
  lookupK ⟨[.i, .i, .i], true⟩ (.int .i64 0) true a3 a5 m6 fun a7 =>
  extractK a7 0 fun a8 =>
  extractK a7 1 fun a9 =>
  unK .not a9 fun a10 =>
  condK a10
  (nilK y0 fun a11 =>
  vK (aFieldAddr 0 1 a11) m6 fun a12 m13 =>
  loadK none a12 m13 fun a14 m15 =>
  loadK (some 3) y1 m15 fun a16 m17 =>
  buildSliceK 3 [(.int .i64 0), (.int .i64 0), (.int .i64 0)] 1 false [(0 * 3, 3, AV.untag a16)] m17 fun a18 m19 =>
  appendK 3 24 0 a14 a18 m19 fun a20 m21 =>
  nilK y0 fun a22 =>
  vK (aFieldAddr 0 1 a22) m21 fun a23 m24 =>
  storeK 1 a23 a20 m24 fun a25 m26 =>
  cond (stayK [m6, m21, m26] []) (nilK y0 fun a27 =>
  vK (aFieldAddr 1 1 a27) m26 fun a28 m29 =>
  loadK none a28 m29 fun a30 m31 =>
  loadK (some 3) y1 m31 fun a32 m33 =>
  nilK y0 fun a34 =>
  vK (aFieldAddr 0 1 a34) m33 fun a35 m36 =>
  loadK none a35 m36 fun a37 m38 =>
  vK (aLen m38 1 a37) m38 fun a39 m40 =>
  binK .add a39 (.int .i64 1) fun a41 =>
  mapUpdateK ⟨[.i, .i, .i], true⟩ a30 a32 a41 m40 fun a42 m43 =>
  cond (stayK [m26, m43] []) (Q50_4 y0 y1 m43) none) none)
  (Q50_4 y0 y1 m6)
theorem g50_5 (call : Nat → List AV → Mem → Rho) (n : Nat) (m0 : Mem) (b50_4 : C) (y0 y1 : AV) (m : Mem) : evK call n (c50_5 b50_4) [(0, y0), (3, y1)] m (fun e m => endK f50 m0 .nrm e m) (endK f50 m0) = G50_5 call n m0 (fun x0 x1 m => evK call n b50_4 [(0, x0), (3, x1)] m (fun e m => endK f50 m0 .nrm e m) (endK f50 m0)) y0 y1 m := by kernel_rfl
def k50_5 (call : Nat → List AV → Mem → Rho) (n : Nat) (m0 : Mem) : KN := (fun e m => endK f50 m0 .nrm e m)
def x50_5 (call : Nat → List AV → Mem → Rho) (n : Nat) (m0 : Mem) : KX := (endK f50 m0)
def S50_5 (call : Nat → List AV → Mem → Rho) (n : Nat) (m0 : Mem) (y0 y1 : AV) (m : Mem) : Rho := G50_5 call n m0 (S50_4 call n m0) y0 y1 m
theorem s50_5 (call : Nat → List AV → Mem → Rho) (n : Nat) (m0 : Mem) (y0 y1 : AV) (m : Mem) : evK call n b50_5 [(0, y0), (3, y1)] m (fun e m => endK f50 m0 .nrm e m) (endK f50 m0) = S50_5 call n m0 y0 y1 m :=
  have h : evK call n b50_5 [(0, y0), (3, y1)] m (fun e m => endK f50 m0 .nrm e m) (endK f50 m0) = G50_5 call n m0 (d50_4 call n m0) y0 y1 m := Eq.mp (by kernel_rfl) (g50_5 call n m0 b50_4 y0 y1 m)
  by rw [l50_4] at h; exact h
def d50_5 (call : Nat → List AV → Mem → Rho) (n : Nat) (m0 : Mem) (y0 y1 : AV) (m : Mem) : Rho := evK call n b50_5 [(0, y0), (3, y1)] m (k50_5 call n m0) (x50_5 call n m0)
theorem l50_5 {call : Nat → List AV → Mem → Rho} {n : Nat} {m0 : Mem} : d50_5 call n m0 = S50_5 call n m0 := by funext y0 y1 m; exact Eq.mp (by kernel_rfl) (s50_5 call n m0 y0 y1 m)
def G50 (call : Nat → List AV → Mem → Rho) (n : Nat) (m0 : Mem) (Q50_5 : AV → AV → Mem → Rho) (y0 y1 : AV) (m : Mem) : Rho :=
  boxK y1 m fun a0 m1 =>
  vK (aFieldAddr 1 1 a0) m1 fun a2 m3 =>
  loadK none a2 m3 fun a4 m5 =>
  vK (aFieldAddr 2 1 a0) m5 fun a6 m7 =>
  loadK none a6 m7 fun a8 m9 =>
  binK .eql a4 a8 fun a10 =>
  condK a10
  (vK (aFieldAddr 1 1 a0) m9 fun a11 m12 =>
  loadK none a11 m12 fun a13 m14 =>
  retK false false m0 [a13] m14)
  (Q50_5 y0 a0 m9)
theorem g50 (call : Nat → List AV → Mem → Rho) (n : Nat) (m0 : Mem) (b50_5 : C) (y0 y1 : AV) (m : Mem) : evK call n (c50 b50_5) [(0, y0), (1, y1)] m (fun e m => endK f50 m0 .nrm e m) (endK f50 m0) = G50 call n m0 (fun x0 x1 m => evK call n b50_5 [(0, x0), (3, x1)] m (fun e m => endK f50 m0 .nrm e m) (endK f50 m0)) y0 y1 m := by kernel_rfl
def S50 (call : Nat → List AV → Mem → Rho) (n : Nat) (m0 : Mem) (y0 y1 : AV) : Rho := G50 call n m0 (S50_5 call n m0) y0 y1 { m0 with bad := none }
theorem s50 (call : Nat → List AV → Mem → Rho) (n : Nat) (m0 : Mem) (y0 y1 : AV) : bodyK call n f50 [y0, y1] m0 = S50 call n m0 y0 y1 :=
  have h : bodyK call n f50 [y0, y1] m0 = G50 call n m0 (d50_5 call n m0) y0 y1 { m0 with bad := none } := Eq.mp (by kernel_rfl) (g50 call n m0 b50_5 y0 y1 { m0 with bad := none })
  by rw [l50_5] at h; exact h
def F50 : SF := fun call n vs m0 => unc vs fun x0 vs => unc vs fun x1 vs => unz vs (S50 call n m0 x0 x1)
theorem F50_ok {orc : List AV → Mem → Option (AV × Mem)} : SOk 50 { f50 with orc := orc } F50 := by
  intro call n vs m0 ho r h0
  simp only [F50] at h0
  obtain ⟨y0, v0, rfl, h1⟩ := unc_some h0
  obtain ⟨y1, v1, rfl, h2⟩ := unc_some h1
  obtain ⟨rfl, hz⟩ := unz_some h2
  exact bodyK_le ho rfl r (Eq.mp (by kernel_rfl) ((s50 call n m0 y0 y1).trans hz))

-- (*resolvent/pos.table).take
def G51_0 (call : Nat → List AV → Mem → Rho) (n : Nat) (m0 : Mem) (y0 y1 : AV) (m : Mem) : Rho :=
  loadK (some 2) y1 m fun a0 m1 =>
  storeK 2 y0 a0 m1 fun a2 m3 =>
  loadK (some 2) y0 m3 fun a4 _ =>
  retK false false m0 [a4] m3
theorem g51_0 (call : Nat → List AV → Mem → Rho) (n : Nat) (m0 : Mem) (y0 y1 : AV) (m : Mem) : evK call n b51_0 [(4, y0), (5, y1)] m (fun e m => endK f51 m0 .nrm e m) (endK f51 m0) = G51_0 call n m0 y0 y1 m := by kernel_rfl
def k51_0 (call : Nat → List AV → Mem → Rho) (n : Nat) (m0 : Mem) : KN := (fun e m => endK f51 m0 .nrm e m)
def x51_0 (call : Nat → List AV → Mem → Rho) (n : Nat) (m0 : Mem) : KX := (endK f51 m0)
def S51_0 (call : Nat → List AV → Mem → Rho) (n : Nat) (m0 : Mem) (y0 y1 : AV) (m : Mem) : Rho := G51_0 call n m0 y0 y1 m
theorem s51_0 (call : Nat → List AV → Mem → Rho) (n : Nat) (m0 : Mem) (y0 y1 : AV) (m : Mem) : evK call n b51_0 [(4, y0), (5, y1)] m (fun e m => endK f51 m0 .nrm e m) (endK f51 m0) = S51_0 call n m0 y0 y1 m :=
  have h : evK call n b51_0 [(4, y0), (5, y1)] m (fun e m => endK f51 m0 .nrm e m) (endK f51 m0) = G51_0 call n m0 y0 y1 m := Eq.mp (by kernel_rfl) (g51_0 call n m0 y0 y1 m)
  h
def d51_0 (call : Nat → List AV → Mem → Rho) (n : Nat) (m0 : Mem) (y0 y1 : AV) (m : Mem) : Rho := evK call n b51_0 [(4, y0), (5, y1)] m (k51_0 call n m0) (x51_0 call n m0)
theorem l51_0 {call : Nat → List AV → Mem → Rho} {n : Nat} {m0 : Mem} : d51_0 call n m0 = S51_0 call n m0 := by funext y0 y1 m; exact Eq.mp (by kernel_rfl) (s51_0 call n m0 y0 y1 m)
def G51_1 (call : Nat → List AV → Mem → Rho) (n : Nat) (m0 : Mem) (Q51_0 : AV → AV → Mem → Rho) (y0 y1 y2 : AV) (m : Mem) : Rho :=
  newK [(.list .full 0 []), (.bool false)] m fun a0 m1 =>
  makeMapK m1 fun a2 m3 =>
  mapUpdateK ⟨[.i], false⟩ a2 (.int .i64 0) (.int .i64 0) m3 fun a4 m5 =>
  mapUpdateK ⟨[.i], false⟩ a2 (.int .i64 1) (.int .i64 1) m5 fun a6 m7 =>
  newK [.nilmap] m7 fun a8 m9 =>
  storeK 1 a8 a2 m9 fun a10 m11 =>
  newK [.nilfunc] m11 fun a12 m13 =>
  storeK 1 a12 (.func 80 [] [a8, y1, a12, a0]) m13 fun a14 m15 =>
  loadK none a12 m15 fun a16 m17 =>
  callK call a16 false [y0] m17 fun a18 m19 =>
  vK (aFieldAddr 0 1 a0) m19 fun a20 m21 =>
  loadK none a20 m21 fun a22 m23 =>
  vK (aLen m23 1 a22) m23 fun a24 m25 =>
  binK .gtr a24 (.int .i64 256) fun a26 =>
  condK a26
  (callK call (.func 10 [] []) false [(.bool true)] m25 fun a27 m28 =>
  storeK 2 y2 a27 m28 fun a29 m30 =>
  loadK (some 2) y2 m30 fun a31 _ =>
  retK false false m0 [a31] m30)
  (Q51_0 y2 a0 m25)
theorem g51_1 (call : Nat → List AV → Mem → Rho) (n : Nat) (m0 : Mem) (b51_0 : C) (y0 y1 y2 : AV) (m : Mem) : evK call n (c51_1 b51_0) [(1, y0), (2, y1), (4, y2)] m (fun e m => endK f51 m0 .nrm e m) (endK f51 m0) = G51_1 call n m0 (fun x0 x1 m => evK call n b51_0 [(4, x0), (5, x1)] m (fun e m => endK f51 m0 .nrm e m) (endK f51 m0)) y0 y1 y2 m := by kernel_rfl
def k51_1 (call : Nat → List AV → Mem → Rho) (n : Nat) (m0 : Mem) : KN := (fun e m => endK f51 m0 .nrm e m)
def x51_1 (call : Nat → List AV → Mem → Rho) (n : Nat) (m0 : Mem) : KX := (endK f51 m0)
def S51_1 (call : Nat → List AV → Mem → Rho) (n : Nat) (m0 : Mem) (y0 y1 y2 : AV) (m : Mem) : Rho := G51_1 call n m0 (S51_0 call n m0) y0 y1 y2 m
theorem s51_1 (call : Nat → List AV → Mem → Rho) (n : Nat) (m0 : Mem) (y0 y1 y2 : AV) (m : Mem) : evK call n b51_1 [(1, y0), (2, y1), (4, y2)] m (fun e m => endK f51 m0 .nrm e m) (endK f51 m0) = S51_1 call n m0 y0 y1 y2 m :=
  have h : evK call n b51_1 [(1, y0), (2, y1), (4, y2)] m (fun e m => endK f51 m0 .nrm e m) (endK f51 m0) = G51_1 call n m0 (d51_0 call n m0) y0 y1 y2 m := Eq.mp (by kernel_rfl) (g51_1 call n m0 b51_0 y0 y1 y2 m)
  by rw [l51_0] at h; exact h
def d51_1 (call : Nat → List AV → Mem → Rho) (n : Nat) (m0 : Mem) (y0 y1 y2 : AV) (m : Mem) : Rho := evK call n b51_1 [(1, y0), (2, y1), (4, y2)] m (k51_1 call n m0) (x51_1 call n m0)
theorem l51_1 {call : Nat → List AV → Mem → Rho} {n : Nat} {m0 : Mem} : d51_1 call n m0 = S51_1 call n m0 := by funext y0 y1 y2 m; exact Eq.mp (by kernel_rfl) (s51_1 call n m0 y0 y1 y2 m)
def G51 (call : Nat → List AV → Mem → Rho) (n : Nat) (m0 : Mem) (Q51_1 : AV → AV → AV → Mem → Rho) (y0 y1 : AV) (m : Mem) : Rho :=
  boxK y0 m fun a0 m1 =>
  newK [(.list .full 0 []), (.bool false)] m1 fun a2 m3 =>
  binK .lss y1 (.int .i64 2) fun a4 =>
  condK a4
  (binK .eql y1 (.int .i64 1) fun a5 =>
  buildK [(.list .full 0 []), (.bool false)] [(1, 1, AV.untag1 a5)] fun a6 =>
  storeK 2 a2 a6 m3 fun a7 m8 =>
  loadK (some 2) a2 m8 fun a9 _ =>
  retK false false m0 [a9] m8)
  (Q51_1 y1 a0 a2 m3)
theorem g51 (call : Nat → List AV → Mem → Rho) (n : Nat) (m0 : Mem) (b51_1 : C) (y0 y1 : AV) (m : Mem) : evK call n (c51 b51_1) [(0, y0), (1, y1)] m (fun e m => endK f51 m0 .nrm e m) (endK f51 m0) = G51 call n m0 (fun x0 x1 x2 m => evK call n b51_1 [(1, x0), (2, x1), (4, x2)] m (fun e m => endK f51 m0 .nrm e m) (endK f51 m0)) y0 y1 m := by kernel_rfl
def S51 (call : Nat → List AV → Mem → Rho) (n : Nat) (m0 : Mem) (y0 y1 : AV) : Rho := G51 call n m0 (S51_1 call n m0) y0 y1 { m0 with bad := none }
theorem s51 (call : Nat → List AV → Mem → Rho) (n : Nat) (m0 : Mem) (y0 y1 : AV) : bodyK call n f51 [y0, y1] m0 = S51 call n m0 y0 y1 :=
  have h : bodyK call n f51 [y0, y1] m0 = G51 call n m0 (d51_1 call n m0) y0 y1 { m0 with bad := none } := Eq.mp (by kernel_rfl) (g51 call n m0 b51_1 y0 y1 { m0 with bad := none })
  by rw [l51_1] at h; exact h
def F51 : SF := fun call n vs m0 => unc vs fun x0 vs => unc vs fun x1 vs => unz vs (S51 call n m0 x0 x1)
theorem F51_ok {orc : List AV → Mem → Option (AV × Mem)} : SOk 51 { f51 with orc := orc } F51 := by
  intro call n vs m0 ho r h0
  simp only [F51] at h0
  obtain ⟨y0, v0, rfl, h1⟩ := unc_some h0
  obtain ⟨y1, v1, rfl, h2⟩ := unc_some h1
  obtain ⟨rfl, hz⟩ := unz_some h2
  exact bodyK_le ho rfl r (Eq.mp (by kernel_rfl) ((s51 call n m0 y0 y1).trans hz))

-- resolvent/pos.or
def G52_0 (call : Nat → List AV → Mem → Rho) (n : Nat) (m0 : Mem) (m : Mem) : Rho :=
  retK false false m0 [(.int .i64 0), (.bool false)] m
theorem g52_0 (call : Nat → List AV → Mem → Rho) (n : Nat) (m0 : Mem) (m : Mem) : evK call n b52_0 [] m (fun e m => endK f52 m0 .nrm e m) (endK f52 m0) = G52_0 call n m0 m := by kernel_rfl
def k52_0 (call : Nat → List AV → Mem → Rho) (n : Nat) (m0 : Mem) : KN := (fun e m => endK f52 m0 .nrm e m)
def x52_0 (call : Nat → List AV → Mem → Rho) (n : Nat) (m0 : Mem) : KX := (endK f52 m0)
def S52_0 (call : Nat → List AV → Mem → Rho) (n : Nat) (m0 : Mem) (m : Mem) : Rho := G52_0 call n m0 m
theorem s52_0 (call : Nat → List AV → Mem → Rho) (n : Nat) (m0 : Mem) (m : Mem) : evK call n b52_0 [] m (fun e m => endK f52 m0 .nrm e m) (endK f52 m0) = S52_0 call n m0 m :=
  have h : evK call n b52_0 [] m (fun e m => endK f52 m0 .nrm e m) (endK f52 m0) = G52_0 call n m0 m := Eq.mp (by kernel_rfl) (g52_0 call n m0 m)
  h
def d52_0 (call : Nat → List AV → Mem → Rho) (n : Nat) (m0 : Mem) (m : Mem) : Rho := evK call n b52_0 [] m (k52_0 call n m0) (x52_0 call n m0)
theorem l52_0 {call : Nat → List AV → Mem → Rho} {n : Nat} {m0 : Mem} : d52_0 call n m0 = S52_0 call n m0 := by funext m; exact Eq.mp (by kernel_rfl) (s52_0 call n m0 m)
def G52 (call : Nat → List AV → Mem → Rho) (n : Nat) (m0 : Mem) (Q52_0 : Mem → Rho) (y0 y1 : AV) (m : Mem) : Rho :=
  binK .eql y0 (.int .i64 1) fun a0 =>
  gK a0 false (fun k => k y1 m) m fun a1 m2 =>
  gK a0 false (fun k => binK .eql a1 (.int .i64 1) fun a3 =>
  k a3 m2) m2 fun a4 m5 =>
  pickK a0 (some (.bool true)) (some a4) fun a6 =>
  condK a6
  (retK false false m0 [(.int .i64 1), (.bool true)] m5)
  (binK .eql y0 (.int .i64 0) fun a7 =>
  condK a7
  (retK false false m0 [y1, (.bool true)] m5)
  (binK .eql y1 (.int .i64 0) fun a8 =>
  gK a8 false (fun k => k y0 m5) m5 fun a9 m10 =>
  gK a8 false (fun k => k y1 m10) m10 fun a11 m12 =>
  gK a8 false (fun k => binK .eql a9 a11 fun a13 =>
  k a13 m12) m12 fun a14 m15 =>
  pickK a8 (some (.bool true)) (some a14) fun a16 =>
  condK a16
  (retK false false m0 [y0, (.bool true)] m15)
  (Q52_0 m15)))
theorem g52 (call : Nat → List AV → Mem → Rho) (n : Nat) (m0 : Mem) (b52_0 : C) (y0 y1 : AV) (m : Mem) : evK call n (c52 b52_0) [(0, y0), (1, y1)] m (fun e m => endK f52 m0 .nrm e m) (endK f52 m0) = G52 call n m0 (fun m => evK call n b52_0 [] m (fun e m => endK f52 m0 .nrm e m) (endK f52 m0)) y0 y1 m := by kernel_rfl
def S52 (call : Nat → List AV → Mem → Rho) (n : Nat) (m0 : Mem) (y0 y1 : AV) : Rho := G52 call n m0 (S52_0 call n m0) y0 y1 { m0 with bad := none }
theorem s52 (call : Nat → List AV → Mem → Rho) (n : Nat) (m0 : Mem) (y0 y1 : AV) : bodyK call n f52 [y0, y1] m0 = S52 call n m0 y0 y1 :=
  have h : bodyK call n f52 [y0, y1] m0 = G52 call n m0 (d52_0 call n m0) y0 y1 { m0 with bad := none } := Eq.mp (by kernel_rfl) (g52 call n m0 b52_0 y0 y1 { m0 with bad := none })
  by rw [l52_0] at h; exact h
def F52 : SF := fun call n vs m0 => unc vs fun x0 vs => unc vs fun x1 vs => unz vs (S52 call n m0 x0 x1)
theorem F52_ok {orc : List AV → Mem → Option (AV × Mem)} : SOk 52 { f52 with orc := orc } F52 := by
  intro call n vs m0 ho r h0
  simp only [F52] at h0
  obtain ⟨y0, v0, rfl, h1⟩ := unc_some h0
  obtain ⟨y1, v1, rfl, h2⟩ := unc_some h1
  obtain ⟨rfl, hz⟩ := unz_some h2
  exact bodyK_le ho rfl r (Eq.mp (by kernel_rfl) ((s52 call n m0 y0 y1).trans hz))

-- (*resolvent/pos.table).opposite
def G53_1 (call : Nat → List AV → Mem → Rho) (n : Nat) (m0 : Mem) (y0 y1 : AV) (m : Mem) : Rho :=
  nilK y0 fun a0 =>
  vK (aFieldAddr 0 1 a0) m fun a1 m2 =>
  loadK none a1 m2 fun a3 m4 =>
  binK .sub y1 (.int .i64 2) fun a5 =>
  vK (aIndexAddr m4 3 a3 a5) m4 fun a6 m7 =>
  loadK (some 3) a6 m7 fun a8 m9 =>
  newK [(.int .i64 0), (.int .i64 0), (.int .i64 0)] m9 fun a10 m11 =>
  storeK 3 a10 a8 m11 fun a12 m13 =>
  vK (aFieldAddr 1 1 a10) m13 fun a14 m15 =>
  loadK none a14 m15 fun a16 m17 =>
  callK call (.func 53 [] []) false [y0, a16] m17 fun a18 m19 =>
  vK (aFieldAddr 0 1 a10) m19 fun a20 m21 =>
  loadK none a20 m21 fun a22 m23 =>
  vK (aFieldAddr 2 1 a10) m23 fun a24 m25 =>
  loadK none a24 m25 fun a26 m27 =>
  callK call (.func 53 [] []) false [y0, a26] m27 fun a28 m29 =>
  buildK [(.int .i64 0), (.int .i64 0), (.int .i64 0)] [(0, 1, AV.untag1 a22), (1, 1, AV.untag1 a18), (2, 1, AV.untag1 a28)] fun a30 =>
  callK call (.func 50 [] []) false [y0, a30] m29 fun a31 m32 =>
  cond (stayK [m19, m29, m32] [(fun m => m.load none a20, a22, 0, 2, true)]) (retK false false m0 [a31] m32) none
theorem g53_1 (call : Nat → List AV → Mem → Rho) (n : Nat) (m0 : Mem) (y0 y1 : AV) (m : Mem) : evK call n b53_1 [(0, y0), (1, y1)] m (fun e m => endK f53 m0 .nrm e m) (endK f53 m0) = G53_1 call n m0 y0 y1 m := by kernel_rfl
def k53_1 (call : Nat → List AV → Mem → Rho) (n : Nat) (m0 : Mem) : KN := (fun e m => endK f53 m0 .nrm e m)
def x53_1 (call : Nat → List AV → Mem → Rho) (n : Nat) (m0 : Mem) : KX := (endK f53 m0)
def S53_1 (call : Nat → List AV → Mem → Rho) (n : Nat) (m0 : Mem) (y0 y1 : AV) (m : Mem) : Rho := G53_1 call n m0 y0 y1 m
theorem s53_1 (call : Nat → List AV → Mem → Rho) (n : Nat) (m0 : Mem) (y0 y1 : AV) (m : Mem) : evK call n b53_1 [(0, y0), (1, y1)] m (fun e m => endK f53 m0 .nrm e m) (endK f53 m0) = S53_1 call n m0 y0 y1 m :=
  have h : evK call n b53_1 [(0, y0), (1, y1)] m (fun e m => endK f53 m0 .nrm e m) (endK f53 m0) = G53_1 call n m0 y0 y1 m := Eq.mp (by kernel_rfl) (g53_1 call n m0 y0 y1 m)
  h
def d53_1 (call : Nat → List AV → Mem → Rho) (n : Nat) (m0 : Mem) (y0 y1 : AV) (m : Mem) : Rho := evK call n b53_1 [(0, y0), (1, y1)] m (k53_1 call n m0) (x53_1 call n m0)
theorem l53_1 {call : Nat → List AV → Mem → Rho} {n : Nat} {m0 : Mem} : d53_1 call n m0 = S53_1 call n m0 := by funext y0 y1 m; exact Eq.mp (by kernel_rfl) (s53_1 call n m0 y0 y1 m)
def G53 (call : Nat → List AV → Mem → Rho) (n : Nat) (m0 : Mem) (Q53_1 : AV → AV → Mem → Rho) (y0 y1 : AV) (m : Mem) : Rho :=
  binK .lss y1 (.int .i64 2) fun a0 =>
  condK a0
  (binK .sub (.int .i64 1) y1 fun a1 =>
  retK false false m0 [a1] m)
  (Q53_1 y0 y1 m)
theorem g53 (call : Nat → List AV → Mem → Rho) (n : Nat) (m0 : Mem) (b53_1 : C) (y0 y1 : AV) (m : Mem) : evK call n (c53 b53_1) [(0, y0), (1, y1)] m (fun e m => endK f53 m0 .nrm e m) (endK f53 m0) = G53 call n m0 (fun x0 x1 m => evK call n b53_1 [(0, x0), (1, x1)] m (fun e m => endK f53 m0 .nrm e m) (endK f53 m0)) y0 y1 m := by kernel_rfl
def S53 (call : Nat → List AV → Mem → Rho) (n : Nat) (m0 : Mem) (y0 y1 : AV) : Rho := G53 call n m0 (S53_1 call n m0) y0 y1 { m0 with bad := none }
theorem s53 (call : Nat → List AV → Mem → Rho) (n : Nat) (m0 : Mem) (y0 y1 : AV) : bodyK call n f53 [y0, y1] m0 = S53 call n m0 y0 y1 :=
  have h : bodyK call n f53 [y0, y1] m0 = G53 call n m0 (d53_1 call n m0) y0 y1 { m0 with bad := none } := Eq.mp (by kernel_rfl) (g53 call n m0 b53_1 y0 y1 { m0 with bad := none })
  by rw [l53_1] at h; exact h
def F53 : SF := fun call n vs m0 => unc vs fun x0 vs => unc vs fun x1 vs => unz vs (S53 call n m0 x0 x1)
theorem F53_ok {orc : List AV → Mem → Option (AV × Mem)} : SOk 53 { f53 with orc := orc } F53 := by
  intro call n vs m0 ho r h0
  simp only [F53] at h0
  obtain ⟨y0, v0, rfl, h1⟩ := unc_some h0
  obtain ⟨y1, v1, rfl, h2⟩ := unc_some h1
  obtain ⟨rfl, hz⟩ := unz_some h2
  exact bodyK_le ho rfl r (Eq.mp (by kernel_rfl) ((s53 call n m0 y0 y1).trans hz))

-- slices.Equal[[]resolvent/pos.node,resolvent/pos.node]
def G59_4 (call : Nat → List AV → Mem → Rho) (n : Nat) (m0 : Mem) (m : Mem) : Rho :=
  retK false false m0 [(.bool true)] m
theorem g59_4 (call : Nat → List AV → Mem → Rho) (n : Nat) (m0 : Mem) (m : Mem) : evK call n b59_4 [] m (fun e m => endK f59 m0 .nrm e m) (endK f59 m0) = G59_4 call n m0 m := by kernel_rfl
def k59_4 (call : Nat → List AV → Mem → Rho) (n : Nat) (m0 : Mem) : KN := (fun e m => endK f59 m0 .nrm e m)
def x59_4 (call : Nat → List AV → Mem → Rho) (n : Nat) (m0 : Mem) : KX := (endK f59 m0)
def S59_4 (call : Nat → List AV → Mem → Rho) (n : Nat) (m0 : Mem) (m : Mem) : Rho := G59_4 call n m0 m
theorem s59_4 (call : Nat → List AV → Mem → Rho) (n : Nat) (m0 : Mem) (m : Mem) : evK call n b59_4 [] m (fun e m => endK f59 m0 .nrm e m) (endK f59 m0) = S59_4 call n m0 m :=
  have h : evK call n b59_4 [] m (fun e m => endK f59 m0 .nrm e m) (endK f59 m0) = G59_4 call n m0 m := Eq.mp (by kernel_rfl) (g59_4 call n m0 m)
  h
def d59_4 (call : Nat → List AV → Mem → Rho) (n : Nat) (m0 : Mem) (m : Mem) : Rho := evK call n b59_4 [] m (k59_4 call n m0) (x59_4 call n m0)
theorem l59_4 {call : Nat → List AV → Mem → Rho} {n : Nat} {m0 : Mem} : d59_4 call n m0 = S59_4 call n m0 := by funext m; exact Eq.mp (by kernel_rfl) (s59_4 call n m0 m)
def G59_1 (call : Nat → List AV → Mem → Rho) (n : Nat) (kn : KN) (kx : KX) (y0 y1 y2 y3 : AV) (m : Mem) : Rho :=
  binK .add y3 (.int .i64 1) fun a0 =>
  kn [(0, y0), (1, y1), (12, y2), (13, a0)] m
theorem g59_1 (call : Nat → List AV → Mem → Rho) (n : Nat) (kn : KN) (kx : KX) (y0 y1 y2 y3 : AV) (m : Mem) : evK call n b59_1 [(0, y0), (1, y1), (12, y2), (13, y3)] m kn kx = G59_1 call n kn kx y0 y1 y2 y3 m := by kernel_rfl
def k59_1 (call : Nat → List AV → Mem → Rho) (n : Nat) (kn : KN) (kx : KX) : KN := kn
def x59_1 (call : Nat → List AV → Mem → Rho) (n : Nat) (kn : KN) (kx : KX) : KX := kx
def S59_1 (call : Nat → List AV → Mem → Rho) (n : Nat) (kn : KN) (kx : KX) (y0 y1 y2 y3 : AV) (m : Mem) : Rho := G59_1 call n kn kx y0 y1 y2 y3 m
theorem s59_1 (call : Nat → List AV → Mem → Rho) (n : Nat) (kn : KN) (kx : KX) (y0 y1 y2 y3 : AV) (m : Mem) : evK call n b59_1 [(0, y0), (1, y1), (12, y2), (13, y3)] m kn kx = S59_1 call n kn kx y0 y1 y2 y3 m :=
  have h : evK call n b59_1 [(0, y0), (1, y1), (12, y2), (13, y3)] m kn kx = G59_1 call n kn kx y0 y1 y2 y3 m := Eq.mp (by kernel_rfl) (g59_1 call n kn kx y0 y1 y2 y3 m)
  h
def d59_1 (call : Nat → List AV → Mem → Rho) (n : Nat) (kn : KN) (kx : KX) (y0 y1 y2 y3 : AV) (m : Mem) : Rho := evK call n b59_1 [(0, y0), (1, y1), (12, y2), (13, y3)] m (k59_1 call n kn kx) (x59_1 call n kn kx)
theorem l59_1 {call : Nat → List AV → Mem → Rho} {n : Nat} {kn : KN} {kx : KX} : d59_1 call n kn kx = S59_1 call n kn kx := by funext y0 y1 y2 y3 m; exact Eq.mp (by kernel_rfl) (s59_1 call n kn kx y0 y1 y2 y3 m)
def G59_2 (call : Nat → List AV → Mem → Rho) (n : Nat) (kn : KN) (kx : KX) (Q59_1 : AV → AV → AV → AV → Mem → Rho) (y0 y1 y2 y3 : AV) (m : Mem) : Rho :=
  vK (aIndexAddr m 3 y0 y3) m fun a0 m1 =>
  loadK (some 3) a0 m1 fun a2 m3 =>
  vK (aIndexAddr m3 3 y1 y3) m3 fun a4 m5 =>
  loadK (some 3) a4 m5 fun a6 m7 =>
  eqvK ⟨[.i, .i, .i], true⟩ true a2 a6 fun a8 =>
  condK a8
  (kx .ret [(4, (.bool false))] m7)
  (Q59_1 y0 y1 y2 y3 m7)
theorem g59_2 (call : Nat → List AV → Mem → Rho) (n : Nat) (kn : KN) (kx : KX) (b59_1 : C) (y0 y1 y2 y3 : AV) (m : Mem) : evK call n (c59_2 b59_1) [(0, y0), (1, y1), (12, y2), (13, y3)] m kn kx = G59_2 call n kn kx (fun x0 x1 x2 x3 m => evK call n b59_1 [(0, x0), (1, x1), (12, x2), (13, x3)] m kn kx) y0 y1 y2 y3 m := by kernel_rfl
def k59_2 (call : Nat → List AV → Mem → Rho) (n : Nat) (kn : KN) (kx : KX) : KN := kn
def x59_2 (call : Nat → List AV → Mem → Rho) (n : Nat) (kn : KN) (kx : KX) : KX := kx
def S59_2 (call : Nat → List AV → Mem → Rho) (n : Nat) (kn : KN) (kx : KX) (y0 y1 y2 y3 : AV) (m : Mem) : Rho := G59_2 call n kn kx (S59_1 call n kn kx) y0 y1 y2 y3 m
theorem s59_2 (call : Nat → List AV → Mem → Rho) (n : Nat) (kn : KN) (kx : KX) (y0 y1 y2 y3 : AV) (m : Mem) : evK call n b59_2 [(0, y0), (1, y1), (12, y2), (13, y3)] m kn kx = S59_2 call n kn kx y0 y1 y2 y3 m :=
  have h : evK call n b59_2 [(0, y0), (1, y1), (12, y2), (13, y3)] m kn kx = G59_2 call n kn kx (d59_1 call n kn kx) y0 y1 y2 y3 m := Eq.mp (by kernel_rfl) (g59_2 call n kn kx b59_1 y0 y1 y2 y3 m)
  by rw [l59_1] at h; exact h
def d59_2 (call : Nat → List AV → Mem → Rho) (n : Nat) (kn : KN) (kx : KX) (y0 y1 y2 y3 : AV) (m : Mem) : Rho := evK call n b59_2 [(0, y0), (1, y1), (12, y2), (13, y3)] m (k59_2 call n kn kx) (x59_2 call n kn kx)
theorem l59_2 {call : Nat → List AV → Mem → Rho} {n : Nat} {kn : KN} {kx : KX} : d59_2 call n kn kx = S59_2 call n kn kx := by funext y0 y1 y2 y3 m; exact Eq.mp (by kernel_rfl) (s59_2 call n kn kx y0 y1 y2 y3 m)
def G59_3 (call : Nat → List AV → Mem → Rho) (n : Nat) (kn : KN) (kx : KX) (Q59_2 : AV → AV → AV → AV → Mem → Rho) (y0 y1 y2 y3 : AV) (m : Mem) : Rho :=
  binK .lss y3 y2 fun a0 =>
  condK a0
  (Q59_2 y0 y1 y2 y3 m)
  (kx (.ext 0) [(0, y0), (1, y1), (12, y2), (13, y3), (14, a0)] m)
theorem g59_3 (call : Nat → List AV → Mem → Rho) (n : Nat) (kn : KN) (kx : KX) (b59_2 : C) (y0 y1 y2 y3 : AV) (m : Mem) : evK call n (c59_3 b59_2) [(0, y0), (1, y1), (12, y2), (13, y3)] m kn kx = G59_3 call n kn kx (fun x0 x1 x2 x3 m => evK call n b59_2 [(0, x0), (1, x1), (12, x2), (13, x3)] m kn kx) y0 y1 y2 y3 m := by kernel_rfl
def S59_3 (call : Nat → List AV → Mem → Rho) (n : Nat) (kn : KN) (kx : KX) (y0 y1 y2 y3 : AV) (m : Mem) : Rho := G59_3 call n kn kx (S59_2 call n kn kx) y0 y1 y2 y3 m
theorem s59_3 (call : Nat → List AV → Mem → Rho) (n : Nat) (kn : KN) (kx : KX) (y0 y1 y2 y3 : AV) (m : Mem) : evK call n b59_3 [(0, y0), (1, y1), (12, y2), (13, y3)] m kn kx = S59_3 call n kn kx y0 y1 y2 y3 m :=
  have h : evK call n b59_3 [(0, y0), (1, y1), (12, y2), (13, y3)] m kn kx = G59_3 call n kn kx (d59_2 call n kn kx) y0 y1 y2 y3 m := Eq.mp (by kernel_rfl) (g59_3 call n kn kx b59_2 y0 y1 y2 y3 m)
  by rw [l59_2] at h; exact h
def d59_3 (call : Nat → List AV → Mem → Rho) (n : Nat) (kn : KN) (kx : KX) (y0 y1 y2 y3 : AV) (m : Mem) : Rho := evK call n b59_3 [(0, y0), (1, y1), (12, y2), (13, y3)] m kn kx
theorem l59_3 {call : Nat → List AV → Mem → Rho} {n : Nat} : d59_3 call n = S59_3 call n := by funext kn kx y0 y1 y2 y3 m; exact Eq.mp (by kernel_rfl) (s59_3 call n kn kx y0 y1 y2 y3 m)
def G59_5 (call : Nat → List AV → Mem → Rho) (n : Nat) (m0 : Mem) (B59_3 : KN → KX → AV → AV → AV → AV → Mem → Rho) (Q59_4 : Mem → Rho) (y0 y1 : AV) (m : Mem) : Rho :=
  vK (aLen m 1 y0) m fun a0 m1 =>
  loopV [0, 1, 12, 13] none (fun vs m kn kx => unc vs fun x0 vs => unc vs fun x1 vs => unc vs fun x2 vs => unc vs fun x3 vs => unz vs (B59_3 kn kx x0 x1 x2 x3 m)) (blkK 0 (fun e m => keepK e [] fun vs => unz vs (Q59_4 m)) (endK f59 m0)) n [y0, y1, a0, (.int .i64 0)] m1
theorem g59_5 (call : Nat → List AV → Mem → Rho) (n : Nat) (m0 : Mem) (b59_3 : C) (b59_4 : C) (y0 y1 : AV) (m : Mem) : evK call n (c59_5 b59_3 b59_4) [(0, y0), (1, y1)] m (fun e m => endK f59 m0 .nrm e m) (endK f59 m0) = G59_5 call n m0 (fun kn kx x0 x1 x2 x3 m => evK call n b59_3 [(0, x0), (1, x1), (12, x2), (13, x3)] m kn kx) (fun m => evK call n b59_4 [] m (fun e m => endK f59 m0 .nrm e m) (endK f59 m0)) y0 y1 m := by kernel_rfl
def k59_5 (call : Nat → List AV → Mem → Rho) (n : Nat) (m0 : Mem) : KN := (fun e m => endK f59 m0 .nrm e m)
def x59_5 (call : Nat → List AV → Mem → Rho) (n : Nat) (m0 : Mem) : KX := (endK f59 m0)
def S59_5 (call : Nat → List AV → Mem → Rho) (n : Nat) (m0 : Mem) (y0 y1 : AV) (m : Mem) : Rho := G59_5 call n m0 (S59_3 call n) (S59_4 call n m0) y0 y1 m
theorem s59_5 (call : Nat → List AV → Mem → Rho) (n : Nat) (m0 : Mem) (y0 y1 : AV) (m : Mem) : evK call n b59_5 [(0, y0), (1, y1)] m (fun e m => endK f59 m0 .nrm e m) (endK f59 m0) = S59_5 call n m0 y0 y1 m :=
  have h : evK call n b59_5 [(0, y0), (1, y1)] m (fun e m => endK f59 m0 .nrm e m) (endK f59 m0) = G59_5 call n m0 (d59_3 call n) (d59_4 call n m0) y0 y1 m := Eq.mp (by kernel_rfl) (g59_5 call n m0 b59_3 b59_4 y0 y1 m)
  by rw [l59_3, l59_4] at h; exact h
def d59_5 (call : Nat → List AV → Mem → Rho) (n : Nat) (m0 : Mem) (y0 y1 : AV) (m : Mem) : Rho := evK call n b59_5 [(0, y0), (1, y1)] m (k59_5 call n m0) (x59_5 call n m0)
theorem l59_5 {call : Nat → List AV → Mem → Rho} {n : Nat} {m0 : Mem} : d59_5 call n m0 = S59_5 call n m0 := by funext y0 y1 m; exact Eq.mp (by kernel_rfl) (s59_5 call n m0 y0 y1 m)
def G59 (call : Nat → List AV → Mem → Rho) (n : Nat) (m0 : Mem) (Q59_5 : AV → AV → Mem → Rho) (y0 y1 : AV) (m : Mem) : Rho :=
  vK (aLen m 1 y0) m fun a0 m1 =>
  vK (aLen m1 1 y1) m1 fun a2 m3 =>
  binK .neq a0 a2 fun a4 =>
  condK a4
  (retK false false m0 [(.bool false)] m3)
  (Q59_5 y0 y1 m3)
theorem g59 (call : Nat → List AV → Mem → Rho) (n : Nat) (m0 : Mem) (b59_5 : C) (y0 y1 : AV) (m : Mem) : evK call n (c59 b59_5) [(0, y0), (1, y1)] m (fun e m => endK f59 m0 .nrm e m) (endK f59 m0) = G59 call n m0 (fun x0 x1 m => evK call n b59_5 [(0, x0), (1, x1)] m (fun e m => endK f59 m0 .nrm e m) (endK f59 m0)) y0 y1 m := by kernel_rfl
def S59 (call : Nat → List AV → Mem → Rho) (n : Nat) (m0 : Mem) (y0 y1 : AV) : Rho := G59 call n m0 (S59_5 call n m0) y0 y1 { m0 with bad := none }
theorem s59 (call : Nat → List AV → Mem → Rho) (n : Nat) (m0 : Mem) (y0 y1 : AV) : bodyK call n f59 [y0, y1] m0 = S59 call n m0 y0 y1 :=
  have h : bodyK call n f59 [y0, y1] m0 = G59 call n m0 (d59_5 call n m0) y0 y1 { m0 with bad := none } := Eq.mp (by kernel_rfl) (g59 call n m0 b59_5 y0 y1 { m0 with bad := none })
  by rw [l59_5] at h; exact h
def F59 : SF := fun call n vs m0 => unc vs fun x0 vs => unc vs fun x1 vs => unz vs (S59 call n m0 x0 x1)
theorem F59_ok {orc : List AV → Mem → Option (AV × Mem)} : SOk 59 { f59 with orc := orc } F59 := by
  intro call n vs m0 ho r h0
  simp only [F59] at h0
  obtain ⟨y0, v0, rfl, h1⟩ := unc_some h0
  obtain ⟨y1, v1, rfl, h2⟩ := unc_some h1
  obtain ⟨rfl, hz⟩ := unz_some h2
  exact bodyK_le ho rfl r (Eq.mp (by kernel_rfl) ((s59 call n m0 y0 y1).trans hz))

-- (*resolvent/pos.table).with
def G60_2 (call : Nat → List AV → Mem → Rho) (n : Nat) (m0 : Mem) (y0 y1 y2 y3 : AV) (m : Mem) : Rho :=
  vK (aFieldAddr 1 1 y3) m fun a0 m1 =>
  loadK none a0 m1 fun a2 m3 =>
  callK call (.func 60 [] []) false [y0, a2, y1, y2] m3 fun a4 m5 =>
  vK (aFieldAddr 0 1 y3) m5 fun a6 m7 =>
  loadK none a6 m7 fun a8 m9 =>
  vK (aFieldAddr 2 1 y3) m9 fun a10 m11 =>
  loadK none a10 m11 fun a12 m13 =>
  callK call (.func 60 [] []) false [y0, a12, y1, y2] m13 fun a14 m15 =>
  buildK [(.int .i64 0), (.int .i64 0), (.int .i64 0)] [(0, 1, AV.untag1 a8), (1, 1, AV.untag1 a4), (2, 1, AV.untag1 a14)] fun a16 =>
  callK call (.func 50 [] []) false [y0, a16] m15 fun a17 m18 =>
  cond (stayK [m5, m15, m18] [(fun m => m.load none a6, a8, 0, 2, true)]) (retK false false m0 [a17] m18) none
theorem g60_2 (call : Nat → List AV → Mem → Rho) (n : Nat) (m0 : Mem) (y0 y1 y2 y3 : AV) (m : Mem) : evK call n b60_2 [(0, y0), (2, y1), (3, y2), (9, y3)] m (fun e m => endK f60 m0 .nrm e m) (endK f60 m0) = G60_2 call n m0 y0 y1 y2 y3 m := by kernel_rfl
def k60_2 (call : Nat → List AV → Mem → Rho) (n : Nat) (m0 : Mem) : KN := (fun e m => endK f60 m0 .nrm e m)
def x60_2 (call : Nat → List AV → Mem → Rho) (n : Nat) (m0 : Mem) : KX := (endK f60 m0)
def S60_2 (call : Nat → List AV → Mem → Rho) (n : Nat) (m0 : Mem) (y0 y1 y2 y3 : AV) (m : Mem) : Rho := G60_2 call n m0 y0 y1 y2 y3 m
theorem s60_2 (call : Nat → List AV → Mem → Rho) (n : Nat) (m0 : Mem) (y0 y1 y2 y3 : AV) (m : Mem) : evK call n b60_2 [(0, y0), (2, y1), (3, y2), (9, y3)] m (fun e m => endK f60 m0 .nrm e m) (endK f60 m0) = S60_2 call n m0 y0 y1 y2 y3 m :=
  have h : evK call n b60_2 [(0, y0), (2, y1), (3, y2), (9, y3)] m (fun e m => endK f60 m0 .nrm e m) (endK f60 m0) = G60_2 call n m0 y0 y1 y2 y3 m := Eq.mp (by kernel_rfl) (g60_2 call n m0 y0 y1 y2 y3 m)
  h
def d60_2 (call : Nat → List AV → Mem → Rho) (n : Nat) (m0 : Mem) (y0 y1 y2 y3 : AV) (m : Mem) : Rho := evK call n b60_2 [(0, y0), (2, y1), (3, y2), (9, y3)] m (k60_2 call n m0) (x60_2 call n m0)
theorem l60_2 {call : Nat → List AV → Mem → Rho} {n : Nat} {m0 : Mem} : d60_2 call n m0 = S60_2 call n m0 := by funext y0 y1 y2 y3 m; exact Eq.mp (by kernel_rfl) (s60_2 call n m0 y0 y1 y2 y3 m)
def G60_0 (call : Nat → List AV → Mem → Rho) (n : Nat) (m0 : Mem) (y0 : AV) (m : Mem) : Rho :=
  vK (aFieldAddr 1 1 y0) m fun a0 m1 =>
  loadK none a0 m1 fun a2 m3 =>
  retK false false m0 [a2] m3
theorem g60_0 (call : Nat → List AV → Mem → Rho) (n : Nat) (m0 : Mem) (b60_2 : C) (k60_2 : KN) (x60_2 : KX) (y0 : AV) (m : Mem) : evK call n b60_0 [(9, y0)] m (jn call n [0, 2, 3, 9] b60_2 k60_2 x60_2) (endK f60 m0) = G60_0 call n m0 y0 m := by kernel_rfl
def k60_0 (call : Nat → List AV → Mem → Rho) (n : Nat) (m0 : Mem) : KN := (jn call n [0, 2, 3, 9] b60_2 (k60_2 call n m0) (x60_2 call n m0))
def x60_0 (call : Nat → List AV → Mem → Rho) (n : Nat) (m0 : Mem) : KX := (endK f60 m0)
def S60_0 (call : Nat → List AV → Mem → Rho) (n : Nat) (m0 : Mem) (y0 : AV) (m : Mem) : Rho := G60_0 call n m0 y0 m
theorem s60_0 (call : Nat → List AV → Mem → Rho) (n : Nat) (m0 : Mem) (y0 : AV) (m : Mem) : evK call n b60_0 [(9, y0)] m (jn call n [0, 2, 3, 9] b60_2 (k60_2 call n m0) (x60_2 call n m0)) (endK f60 m0) = S60_0 call n m0 y0 m :=
  have h : evK call n b60_0 [(9, y0)] m (jn call n [0, 2, 3, 9] b60_2 (k60_2 call n m0) (x60_2 call n m0)) (endK f60 m0) = G60_0 call n m0 y0 m := Eq.mp (by kernel_rfl) (g60_0 call n m0 b60_2 (k60_2 call n m0) (x60_2 call n m0) y0 m)
  h
def d60_0 (call : Nat → List AV → Mem → Rho) (n : Nat) (m0 : Mem) (y0 : AV) (m : Mem) : Rho := evK call n b60_0 [(9, y0)] m (k60_0 call n m0) (x60_0 call n m0)
theorem l60_0 {call : Nat → List AV → Mem → Rho} {n : Nat} {m0 : Mem} : d60_0 call n m0 = S60_0 call n m0 := by funext y0 m; exact Eq.mp (by kernel_rfl) (s60_0 call n m0 y0 m)
def G60_3 (call : Nat → List AV → Mem → Rho) (n : Nat) (m0 : Mem) (Q60_0 : AV → Mem → Rho) (Q60_2 : AV → AV → AV → AV → Mem → Rho) (y0 y1 y2 y3 : AV) (m : Mem) : Rho :=
  nilK y0 fun a0 =>
  vK (aFieldAddr 0 1 a0) m fun a1 m2 =>
  loadK none a1 m2 fun a3 m4 =>
  binK .sub y1 (.int .i64 2) fun a5 =>
  vK (aIndexAddr m4 3 a3 a5) m4 fun a6 m7 =>
  loadK (some 3) a6 m7 fun a8 m9 =>
  newK [(.int .i64 0), (.int .i64 0), (.int .i64 0)] m9 fun a10 m11 =>
  storeK 3 a10 a8 m11 fun a12 m13 =>
  vK (aFieldAddr 0 1 a10) m13 fun a14 m15 =>
  loadK none a14 m15 fun a16 m17 =>
  binK .eql a16 y2 fun a18 =>
  condK a18
  (condK y3
  (vK (aFieldAddr 2 1 a10) m17 fun a19 m20 =>
  loadK none a19 m20 fun a21 m22 =>
  retK false false m0 [a21] m22)
  (Q60_0 a10 m17))
  (Q60_2 y0 y2 y3 a10 m17)
theorem g60_3 (call : Nat → List AV → Mem → Rho) (n : Nat) (m0 : Mem) (b60_0 : C) (b60_2 : C) (y0 y1 y2 y3 : AV) (m : Mem) : evK call n (c60_3 b60_0 b60_2) [(0, y0), (1, y1), (2, y2), (3, y3)] m (fun e m => endK f60 m0 .nrm e m) (endK f60 m0) = G60_3 call n m0 (fun x0 m => evK call n b60_0 [(9, x0)] m (jn call n [0, 2, 3, 9] b60_2 (fun e m => endK f60 m0 .nrm e m) (endK f60 m0)) (endK f60 m0)) (fun x0 x1 x2 x3 m => evK call n b60_2 [(0, x0), (2, x1), (3, x2), (9, x3)] m (fun e m => endK f60 m0 .nrm e m) (endK f60 m0)) y0 y1 y2 y3 m := by kernel_rfl
def k60_3 (call : Nat → List AV → Mem → Rho) (n : Nat) (m0 : Mem) : KN := (fun e m => endK f60 m0 .nrm e m)
def x60_3 (call : Nat → List AV → Mem → Rho) (n : Nat) (m0 : Mem) : KX := (endK f60 m0)
def S60_3 (call : Nat → List AV → Mem → Rho) (n : Nat) (m0 : Mem) (y0 y1 y2 y3 : AV) (m : Mem) : Rho := G60_3 call n m0 (S60_0 call n m0) (S60_2 call n m0) y0 y1 y2 y3 m
theorem s60_3 (call : Nat → List AV → Mem → Rho) (n : Nat) (m0 : Mem) (y0 y1 y2 y3 : AV) (m : Mem) : evK call n b60_3 [(0, y0), (1, y1), (2, y2), (3, y3)] m (fun e m => endK f60 m0 .nrm e m) (endK f60 m0) = S60_3 call n m0 y0 y1 y2 y3 m :=
  have h : evK call n b60_3 [(0, y0), (1, y1), (2, y2), (3, y3)] m (fun e m => endK f60 m0 .nrm e m) (endK f60 m0) = G60_3 call n m0 (d60_0 call n m0) (d60_2 call n m0) y0 y1 y2 y3 m := Eq.mp (by kernel_rfl) (g60_3 call n m0 b60_0 b60_2 y0 y1 y2 y3 m)
  by rw [l60_0, l60_2] at h; exact h
def d60_3 (call : Nat → List AV → Mem → Rho) (n : Nat) (m0 : Mem) (y0 y1 y2 y3 : AV) (m : Mem) : Rho := evK call n b60_3 [(0, y0), (1, y1), (2, y2), (3, y3)] m (k60_3 call n m0) (x60_3 call n m0)
theorem l60_3 {call : Nat → List AV → Mem → Rho} {n : Nat} {m0 : Mem} : d60_3 call n m0 = S60_3 call n m0 := by funext y0 y1 y2 y3 m; exact Eq.mp (by kernel_rfl) (s60_3 call n m0 y0 y1 y2 y3 m)
def G60 (call : Nat → List AV → Mem → Rho) (n : Nat) (m0 : Mem) (Q60_3 : AV → AV → AV → AV → Mem → Rho) (y0 y1 y2 y3 : AV) (m : Mem) : Rho :=
  callK call (.func 76 [] []) false [y0, y1] m fun a0 m1 =>
  binK .gtr a0 y2 fun a2 =>
  condK a2
  (retK false false m0 [y1] m1)
  (Q60_3 y0 y1 y2 y3 m1)
theorem g60 (call : Nat → List AV → Mem → Rho) (n : Nat) (m0 : Mem) (b60_3 : C) (y0 y1 y2 y3 : AV) (m : Mem) : evK call n (c60 b60_3) [(0, y0), (1, y1), (2, y2), (3, y3)] m (fun e m => endK f60 m0 .nrm e m) (endK f60 m0) = G60 call n m0 (fun x0 x1 x2 x3 m => evK call n b60_3 [(0, x0), (1, x1), (2, x2), (3, x3)] m (fun e m => endK f60 m0 .nrm e m) (endK f60 m0)) y0 y1 y2 y3 m := by kernel_rfl
def S60 (call : Nat → List AV → Mem → Rho) (n : Nat) (m0 : Mem) (y0 y1 y2 y3 : AV) : Rho := G60 call n m0 (S60_3 call n m0) y0 y1 y2 y3 { m0 with bad := none }
theorem s60 (call : Nat → List AV → Mem → Rho) (n : Nat) (m0 : Mem) (y0 y1 y2 y3 : AV) : bodyK call n f60 [y0, y1, y2, y3] m0 = S60 call n m0 y0 y1 y2 y3 :=
  have h : bodyK call n f60 [y0, y1, y2, y3] m0 = G60 call n m0 (d60_3 call n m0) y0 y1 y2 y3 { m0 with bad := none } := Eq.mp (by kernel_rfl) (g60 call n m0 b60_3 y0 y1 y2 y3 { m0 with bad := none })
  by rw [l60_3] at h; exact h
def F60 : SF := fun call n vs m0 => unc vs fun x0 vs => unc vs fun x1 vs => unc vs fun x2 vs => unc vs fun x3 vs => unz vs (S60 call n m0 x0 x1 x2 x3)
theorem F60_ok {orc : List AV → Mem → Option (AV × Mem)} : SOk 60 { f60 with orc := orc } F60 := by
  intro call n vs m0 ho r h0
  simp only [F60] at h0
  obtain ⟨y0, v0, rfl, h1⟩ := unc_some h0
  obtain ⟨y1, v1, rfl, h2⟩ := unc_some h1
  obtain ⟨y2, v2, rfl, h3⟩ := unc_some h2
  obtain ⟨y3, v3, rfl, h4⟩ := unc_some h3
  obtain ⟨rfl, hz⟩ := unz_some h4
  exact bodyK_le ho rfl r (Eq.mp (by kernel_rfl) ((s60 call n m0 y0 y1 y2 y3).trans hz))

-- (*resolvent/pos.table).both$1
def G75_2 (call : Nat → List AV → Mem → Rho) (n : Nat) (m0 : Mem) (y0 y1 y2 y3 y4 y5 : AV) (m : Mem) : Rho :=
  loadK none y3 m fun a0 m1 =>
  callK call (.func 76 [] []) false [a0, y0] m1 fun a2 m3 =>
  loadK none y3 m3 fun a4 m5 =>
  callK call (.func 76 [] []) false [a4, y1] m5 fun a6 m7 =>
  min2K a2 a6 fun a8 =>
  cond (stayK [m, m3, m7] [(fun m => m.load none y3, a4, 0, 2, true)]) (loadK none y3 m7 fun a9 m10 =>
  callK call (.func 77 [] []) false [a9, y0, a8] m10 fun a11 m12 =>
  extractK a11 0 fun a13 =>
  extractK a11 1 fun a14 =>
  loadK none y3 m12 fun a15 m16 =>
  callK call (.func 77 [] []) false [a15, y1, a8] m16 fun a17 m18 =>
  extractK a17 0 fun a19 =>
  extractK a17 1 fun a20 =>
  loadK none y4 m18 fun a21 m22 =>
  callK call a21 false [a13, a19] m22 fun a23 m24 =>
  loadK none y2 m24 fun a25 m26 =>
  loadK (some 2) y5 m26 fun a27 m28 =>
  loadK none y3 m28 fun a29 m30 =>
  loadK none y4 m30 fun a31 m32 =>
  callK call a31 false [a14, a20] m32 fun a33 m34 =>
  buildK [(.int .i64 0), (.int .i64 0), (.int .i64 0)] [(0, 1, AV.untag1 a8), (1, 1, AV.untag1 a23), (2, 1, AV.untag1 a33)] fun a35 =>
  callK call (.func 50 [] []) false [a29, a35] m34 fun a36 m37 =>
  mapUpdateK ⟨[.i, .i], true⟩ a25 a27 a36 m37 fun a38 m39 =>
  cond (stayK [m24, m34, m37, m39] [(fun m => m.load none y2, a25, 0, 3, true), (fun m => m.load (some 2) y5, a27, 0, 3, true), (fun m => m.load none y3, a29, 0, 2, true)]) (loadK none y2 m39 fun a40 m41 =>
  loadK (some 2) y5 m41 fun a42 m43 =>
  lookupK ⟨[.i, .i], true⟩ (.int .i64 0) false a40 a42 m43 fun a44 =>
  retK false false m0 [a44] m43) none) none
theorem g75_2 (call : Nat → List AV → Mem → Rho) (n : Nat) (m0 : Mem) (y0 y1 y2 y3 y4 y5 : AV) (m : Mem) : evK call n b75_2 [(0, y0), (1, y1), (3, y2), (4, y3), (5, y4), (11, y5)] m (fun e m => endK f75 m0 .nrm e m) (endK f75 m0) = G75_2 call n m0 y0 y1 y2 y3 y4 y5 m := by kernel_rfl
def k75_2 (call : Nat → List AV → Mem → Rho) (n : Nat) (m0 : Mem) : KN := (fun e m => endK f75 m0 .nrm e m)
def x75_2 (call : Nat → List AV → Mem → Rho) (n : Nat) (m0 : Mem) : KX := (endK f75 m0)
def S75_2 (call : Nat → List AV → Mem → Rho) (n : Nat) (m0 : Mem) (y0 y1 y2 y3 y4 y5 : AV) (m : Mem) : Rho := G75_2 call n m0 y0 y1 y2 y3 y4 y5 m
theorem s75_2 (call : Nat → List AV → Mem → Rho) (n : Nat) (m0 : Mem) (y0 y1 y2 y3 y4 y5 : AV) (m : Mem) : evK call n b75_2 [(0, y0), (1, y1), (3, y2), (4, y3), (5, y4), (11, y5)] m (fun e m => endK f75 m0 .nrm e m) (endK f75 m0) = S75_2 call n m0 y0 y1 y2 y3 y4 y5 m :=
  have h : evK call n b75_2 [(0, y0), (1, y1), (3, y2), (4, y3), (5, y4), (11, y5)] m (fun e m => endK f75 m0 .nrm e m) (endK f75 m0) = G75_2 call n m0 y0 y1 y2 y3 y4 y5 m := Eq.mp (by kernel_rfl) (g75_2 call n m0 y0 y1 y2 y3 y4 y5 m)
  h
def d75_2 (call : Nat → List AV → Mem → Rho) (n : Nat) (m0 : Mem) (y0 y1 y2 y3 y4 y5 : AV) (m : Mem) : Rho := evK call n b75_2 [(0, y0), (1, y1), (3, y2), (4, y3), (5, y4), (11, y5)] m (k75_2 call n m0) (x75_2 call n m0)
theorem l75_2 {call : Nat → List AV → Mem → Rho} {n : Nat} {m0 : Mem} : d75_2 call n m0 = S75_2 call n m0 := by funext y0 y1 y2 y3 y4 y5 m; exact Eq.mp (by kernel_rfl) (s75_2 call n m0 y0 y1 y2 y3 y4 y5 m)
def G75_3 (call : Nat → List AV → Mem → Rho) (n : Nat) (m0 : Mem) (Q75_2 : AV → AV → AV → AV → AV → AV → Mem → Rho) (y0 y1 y2 y3 y4 : AV) (m : Mem) : Rho :=
  buildK [(.int .i64 0), (.int .i64 0)] [(0, 1, AV.untag1 y0), (1, 1, AV.untag1 y1)] fun a0 =>
  newK [(.int .i64 0), (.int .i64 0)] m fun a1 m2 =>
  storeK 2 a1 a0 m2 fun a3 m4 =>
  loadK none y2 m4 fun a5 m6 =>
  loadK (some 2) a1 m6 fun a7 m8 =>
  lookupK ⟨[.i, .i], true⟩ (.int .i64 0) true a5 a7 m8 fun a9 =>
  extractK a9 0 fun a10 =>
  extractK a9 1 fun a11 =>
  condK a11
  (retK false false m0 [a10] m8)
  (Q75_2 y0 y1 y2 y3 y4 a1 m8)
theorem g75_3 (call : Nat → List AV → Mem → Rho) (n : Nat) (m0 : Mem) (b75_2 : C) (y0 y1 y2 y3 y4 : AV) (m : Mem) : evK call n (c75_3 b75_2) [(0, y0), (1, y1), (3, y2), (4, y3), (5, y4)] m (fun e m => endK f75 m0 .nrm e m) (endK f75 m0) = G75_3 call n m0 (fun x0 x1 x2 x3 x4 x5 m => evK call n b75_2 [(0, x0), (1, x1), (3, x2), (4, x3), (5, x4), (11, x5)] m (fun e m => endK f75 m0 .nrm e m) (endK f75 m0)) y0 y1 y2 y3 y4 m := by kernel_rfl
def k75_3 (call : Nat → List AV → Mem → Rho) (n : Nat) (m0 : Mem) : KN := (fun e m => endK f75 m0 .nrm e m)
def x75_3 (call : Nat → List AV → Mem → Rho) (n : Nat) (m0 : Mem) : KX := (endK f75 m0)
def S75_3 (call : Nat → List AV → Mem → Rho) (n : Nat) (m0 : Mem) (y0 y1 y2 y3 y4 : AV) (m : Mem) : Rho := G75_3 call n m0 (S75_2 call n m0) y0 y1 y2 y3 y4 m
theorem s75_3 (call : Nat → List AV → Mem → Rho) (n : Nat) (m0 : Mem) (y0 y1 y2 y3 y4 : AV) (m : Mem) : evK call n b75_3 [(0, y0), (1, y1), (3, y2), (4, y3), (5, y4)] m (fun e m => endK f75 m0 .nrm e m) (endK f75 m0) = S75_3 call n m0 y0 y1 y2 y3 y4 m :=
  have h : evK call n b75_3 [(0, y0), (1, y1), (3, y2), (4, y3), (5, y4)] m (fun e m => endK f75 m0 .nrm e m) (endK f75 m0) = G75_3 call n m0 (d75_2 call n m0) y0 y1 y2 y3 y4 m := Eq.mp (by kernel_rfl) (g75_3 call n m0 b75_2 y0 y1 y2 y3 y4 m)
  by rw [l75_2] at h; exact h
def d75_3 (call : Nat → List AV → Mem → Rho) (n : Nat) (m0 : Mem) (y0 y1 y2 y3 y4 : AV) (m : Mem) : Rho := evK call n b75_3 [(0, y0), (1, y1), (3, y2), (4, y3), (5, y4)] m (k75_3 call n m0) (x75_3 call n m0)
theorem l75_3 {call : Nat → List AV → Mem → Rho} {n : Nat} {m0 : Mem} : d75_3 call n m0 = S75_3 call n m0 := by funext y0 y1 y2 y3 y4 m; exact Eq.mp (by kernel_rfl) (s75_3 call n m0 y0 y1 y2 y3 y4 m)
def G75 (call : Nat → List AV → Mem → Rho) (n : Nat) (m0 : Mem) (Q75_3 : AV → AV → AV → AV → AV → Mem → Rho) (y0 y1 y2 y3 y4 y5 : AV) (m : Mem) : Rho :=
  loadK none y2 m fun a0 m1 =>
  callK call a0 false [y0, y1] m1 fun a2 m3 =>
  extractK a2 0 fun a4 =>
  extractK a2 1 fun a5 =>
  condK a5
  (retK false false m0 [a4] m3)
  (Q75_3 y0 y1 y3 y4 y5 m3)
theorem g75 (call : Nat → List AV → Mem → Rho) (n : Nat) (m0 : Mem) (b75_3 : C) (y0 y1 y2 y3 y4 y5 : AV) (m : Mem) : evK call n (c75 b75_3) [(0, y0), (1, y1), (2, y2), (3, y3), (4, y4), (5, y5)] m (fun e m => endK f75 m0 .nrm e m) (endK f75 m0) = G75 call n m0 (fun x0 x1 x2 x3 x4 m => evK call n b75_3 [(0, x0), (1, x1), (3, x2), (4, x3), (5, x4)] m (fun e m => endK f75 m0 .nrm e m) (endK f75 m0)) y0 y1 y2 y3 y4 y5 m := by kernel_rfl
def S75 (call : Nat → List AV → Mem → Rho) (n : Nat) (m0 : Mem) (y0 y1 y2 y3 y4 y5 : AV) : Rho := G75 call n m0 (S75_3 call n m0) y0 y1 y2 y3 y4 y5 { m0 with bad := none }
theorem s75 (call : Nat → List AV → Mem → Rho) (n : Nat) (m0 : Mem) (y0 y1 y2 y3 y4 y5 : AV) : bodyK call n f75 [y0, y1, y2, y3, y4, y5] m0 = S75 call n m0 y0 y1 y2 y3 y4 y5 :=
  have h : bodyK call n f75 [y0, y1, y2, y3, y4, y5] m0 = G75 call n m0 (d75_3 call n m0) y0 y1 y2 y3 y4 y5 { m0 with bad := none } := Eq.mp (by kernel_rfl) (g75 call n m0 b75_3 y0 y1 y2 y3 y4 y5 { m0 with bad := none })
  by rw [l75_3] at h; exact h
def F75 : SF := fun call n vs m0 => unc vs fun x0 vs => unc vs fun x1 vs => unc vs fun x2 vs => unc vs fun x3 vs => unc vs fun x4 vs => unc vs fun x5 vs => unz vs (S75 call n m0 x0 x1 x2 x3 x4 x5)
theorem F75_ok {orc : List AV → Mem → Option (AV × Mem)} : SOk 75 { f75 with orc := orc } F75 := by
  intro call n vs m0 ho r h0
  simp only [F75] at h0
  obtain ⟨y0, v0, rfl, h1⟩ := unc_some h0
  obtain ⟨y1, v1, rfl, h2⟩ := unc_some h1
  obtain ⟨y2, v2, rfl, h3⟩ := unc_some h2
  obtain ⟨y3, v3, rfl, h4⟩ := unc_some h3
  obtain ⟨y4, v4, rfl, h5⟩ := unc_some h4
  obtain ⟨y5, v5, rfl, h6⟩ := unc_some h5
  obtain ⟨rfl, hz⟩ := unz_some h6
  exact bodyK_le ho rfl r (Eq.mp (by kernel_rfl) ((s75 call n m0 y0 y1 y2 y3 y4 y5).trans hz))

-- (*resolvent/pos.table).top
def G76_0 (call : Nat → List AV → Mem → Rho) (n : Nat) (m0 : Mem) (y0 y1 : AV) (m : Mem) : Rho :=
  nilK y0 fun a0 =>
  vK (aFieldAddr 0 1 a0) m fun a1 m2 =>
  loadK none a1 m2 fun a3 m4 =>
  binK .sub y1 (.int .i64 2) fun a5 =>
  vK (aIndexAddr m4 3 a3 a5) m4 fun a6 m7 =>
  vK (aFieldAddr 0 1 a6) m7 fun a8 m9 =>
  loadK none a8 m9 fun a10 m11 =>
  retK false false m0 [a10] m11
theorem g76_0 (call : Nat → List AV → Mem → Rho) (n : Nat) (m0 : Mem) (y0 y1 : AV) (m : Mem) : evK call n b76_0 [(0, y0), (1, y1)] m (fun e m => endK f76 m0 .nrm e m) (endK f76 m0) = G76_0 call n m0 y0 y1 m := by kernel_rfl
def k76_0 (call : Nat → List AV → Mem → Rho) (n : Nat) (m0 : Mem) : KN := (fun e m => endK f76 m0 .nrm e m)
def x76_0 (call : Nat → List AV → Mem → Rho) (n : Nat) (m0 : Mem) : KX := (endK f76 m0)
def S76_0 (call : Nat → List AV → Mem → Rho) (n : Nat) (m0 : Mem) (y0 y1 : AV) (m : Mem) : Rho := G76_0 call n m0 y0 y1 m
theorem s76_0 (call : Nat → List AV → Mem → Rho) (n : Nat) (m0 : Mem) (y0 y1 : AV) (m : Mem) : evK call n b76_0 [(0, y0), (1, y1)] m (fun e m => endK f76 m0 .nrm e m) (endK f76 m0) = S76_0 call n m0 y0 y1 m :=
  have h : evK call n b76_0 [(0, y0), (1, y1)] m (fun e m => endK f76 m0 .nrm e m) (endK f76 m0) = G76_0 call n m0 y0 y1 m := Eq.mp (by kernel_rfl) (g76_0 call n m0 y0 y1 m)
  h
def d76_0 (call : Nat → List AV → Mem → Rho) (n : Nat) (m0 : Mem) (y0 y1 : AV) (m : Mem) : Rho := evK call n b76_0 [(0, y0), (1, y1)] m (k76_0 call n m0) (x76_0 call n m0)
theorem l76_0 {call : Nat → List AV → Mem → Rho} {n : Nat} {m0 : Mem} : d76_0 call n m0 = S76_0 call n m0 := by funext y0 y1 m; exact Eq.mp (by kernel_rfl) (s76_0 call n m0 y0 y1 m)
def G76 (call : Nat → List AV → Mem → Rho) (n : Nat) (m0 : Mem) (Q76_0 : AV → AV → Mem → Rho) (y0 y1 : AV) (m : Mem) : Rho :=
  binK .lss y1 (.int .i64 2) fun a0 =>
  condK a0
  (retK false false m0 [(.int .i64 9223372036854775807)] m)
  (Q76_0 y0 y1 m)
theorem g76 (call : Nat → List AV → Mem → Rho) (n : Nat) (m0 : Mem) (b76_0 : C) (y0 y1 : AV) (m : Mem) : evK call n (c76 b76_0) [(0, y0), (1, y1)] m (fun e m => endK f76 m0 .nrm e m) (endK f76 m0) = G76 call n m0 (fun x0 x1 m => evK call n b76_0 [(0, x0), (1, x1)] m (fun e m => endK f76 m0 .nrm e m) (endK f76 m0)) y0 y1 m := by kernel_rfl
def S76 (call : Nat → List AV → Mem → Rho) (n : Nat) (m0 : Mem) (y0 y1 : AV) : Rho := G76 call n m0 (S76_0 call n m0) y0 y1 { m0 with bad := none }
theorem s76 (call : Nat → List AV → Mem → Rho) (n : Nat) (m0 : Mem) (y0 y1 : AV) : bodyK call n f76 [y0, y1] m0 = S76 call n m0 y0 y1 :=
  have h : bodyK call n f76 [y0, y1] m0 = G76 call n m0 (d76_0 call n m0) y0 y1 { m0 with bad := none } := Eq.mp (by kernel_rfl) (g76 call n m0 b76_0 y0 y1 { m0 with bad := none })
  by rw [l76_0] at h; exact h
def F76 : SF := fun call n vs m0 => unc vs fun x0 vs => unc vs fun x1 vs => unz vs (S76 call n m0 x0 x1)
theorem F76_ok {orc : List AV → Mem → Option (AV × Mem)} : SOk 76 { f76 with orc := orc } F76 := by
  intro call n vs m0 ho r h0
  simp only [F76] at h0
  obtain ⟨y0, v0, rfl, h1⟩ := unc_some h0
  obtain ⟨y1, v1, rfl, h2⟩ := unc_some h1
  obtain ⟨rfl, hz⟩ := unz_some h2
  exact bodyK_le ho rfl r (Eq.mp (by kernel_rfl) ((s76 call n m0 y0 y1).trans hz))

-- (*resolvent/pos.table).ways
def G77_1 (call : Nat → List AV → Mem → Rho) (n : Nat) (m0 : Mem) (y0 y1 : AV) (m : Mem) : Rho :=
  nilK y0 fun a0 =>
  vK (aFieldAddr 0 1 a0) m fun a1 m2 =>
  loadK none a1 m2 fun a3 m4 =>
  binK .sub y1 (.int .i64 2) fun a5 =>
  vK (aIndexAddr m4 3 a3 a5) m4 fun a6 m7 =>
  vK (aFieldAddr 1 1 a6) m7 fun a8 m9 =>
  loadK none a8 m9 fun a10 m11 =>
  nilK y0 fun a12 =>
  vK (aFieldAddr 0 1 a12) m11 fun a13 m14 =>
  loadK none a13 m14 fun a15 m16 =>
  binK .sub y1 (.int .i64 2) fun a17 =>
  vK (aIndexAddr m16 3 a15 a17) m16 fun a18 m19 =>
  vK (aFieldAddr 2 1 a18) m19 fun a20 m21 =>
  loadK none a20 m21 fun a22 m23 =>
  retK false false m0 [a10, a22] m23
theorem g77_1 (call : Nat → List AV → Mem → Rho) (n : Nat) (m0 : Mem) (y0 y1 : AV) (m : Mem) : evK call n b77_1 [(0, y0), (1, y1)] m (fun e m => endK f77 m0 .nrm e m) (endK f77 m0) = G77_1 call n m0 y0 y1 m := by kernel_rfl
def k77_1 (call : Nat → List AV → Mem → Rho) (n : Nat) (m0 : Mem) : KN := (fun e m => endK f77 m0 .nrm e m)
def x77_1 (call : Nat → List AV → Mem → Rho) (n : Nat) (m0 : Mem) : KX := (endK f77 m0)
def S77_1 (call : Nat → List AV → Mem → Rho) (n : Nat) (m0 : Mem) (y0 y1 : AV) (m : Mem) : Rho := G77_1 call n m0 y0 y1 m
theorem s77_1 (call : Nat → List AV → Mem → Rho) (n : Nat) (m0 : Mem) (y0 y1 : AV) (m : Mem) : evK call n b77_1 [(0, y0), (1, y1)] m (fun e m => endK f77 m0 .nrm e m) (endK f77 m0) = S77_1 call n m0 y0 y1 m :=
  have h : evK call n b77_1 [(0, y0), (1, y1)] m (fun e m => endK f77 m0 .nrm e m) (endK f77 m0) = G77_1 call n m0 y0 y1 m := Eq.mp (by kernel_rfl) (g77_1 call n m0 y0 y1 m)
  h
def d77_1 (call : Nat → List AV → Mem → Rho) (n : Nat) (m0 : Mem) (y0 y1 : AV) (m : Mem) : Rho := evK call n b77_1 [(0, y0), (1, y1)] m (k77_1 call n m0) (x77_1 call n m0)
theorem l77_1 {call : Nat → List AV → Mem → Rho} {n : Nat} {m0 : Mem} : d77_1 call n m0 = S77_1 call n m0 := by funext y0 y1 m; exact Eq.mp (by kernel_rfl) (s77_1 call n m0 y0 y1 m)
def G77 (call : Nat → List AV → Mem → Rho) (n : Nat) (m0 : Mem) (Q77_1 : AV → AV → Mem → Rho) (y0 y1 y2 : AV) (m : Mem) : Rho :=
  callK call (.func 76 [] []) false [y0, y1] m fun a0 m1 =>
  binK .neq a0 y2 fun a2 =>
  condK a2
  (retK false false m0 [y1, y1] m1)
  (Q77_1 y0 y1 m1)
theorem g77 (call : Nat → List AV → Mem → Rho) (n : Nat) (m0 : Mem) (b77_1 : C) (y0 y1 y2 : AV) (m : Mem) : evK call n (c77 b77_1) [(0, y0), (1, y1), (2, y2)] m (fun e m => endK f77 m0 .nrm e m) (endK f77 m0) = G77 call n m0 (fun x0 x1 m => evK call n b77_1 [(0, x0), (1, x1)] m (fun e m => endK f77 m0 .nrm e m) (endK f77 m0)) y0 y1 y2 m := by kernel_rfl
def S77 (call : Nat → List AV → Mem → Rho) (n : Nat) (m0 : Mem) (y0 y1 y2 : AV) : Rho := G77 call n m0 (S77_1 call n m0) y0 y1 y2 { m0 with bad := none }
theorem s77 (call : Nat → List AV → Mem → Rho) (n : Nat) (m0 : Mem) (y0 y1 y2 : AV) : bodyK call n f77 [y0, y1, y2] m0 = S77 call n m0 y0 y1 y2 :=
  have h : bodyK call n f77 [y0, y1, y2] m0 = G77 call n m0 (d77_1 call n m0) y0 y1 y2 { m0 with bad := none } := Eq.mp (by kernel_rfl) (g77 call n m0 b77_1 y0 y1 y2 { m0 with bad := none })
  by rw [l77_1] at h; exact h
def F77 : SF := fun call n vs m0 => unc vs fun x0 vs => unc vs fun x1 vs => unc vs fun x2 vs => unz vs (S77 call n m0 x0 x1 x2)
theorem F77_ok {orc : List AV → Mem → Option (AV × Mem)} : SOk 77 { f77 with orc := orc } F77 := by
  intro call n vs m0 ho r h0
  simp only [F77] at h0
  obtain ⟨y0, v0, rfl, h1⟩ := unc_some h0
  obtain ⟨y1, v1, rfl, h2⟩ := unc_some h1
  obtain ⟨y2, v2, rfl, h3⟩ := unc_some h2
  obtain ⟨rfl, hz⟩ := unz_some h3
  exact bodyK_le ho rfl r (Eq.mp (by kernel_rfl) ((s77 call n m0 y0 y1 y2).trans hz))

-- resolvent/pos.bit
def G78_0 (call : Nat → List AV → Mem → Rho) (n : Nat) (m0 : Mem) (m : Mem) : Rho :=
  retK false false m0 [(.int .i64 0)] m
theorem g78_0 (call : Nat → List AV → Mem → Rho) (n : Nat) (m0 : Mem) (m : Mem) : evK call n b78_0 [] m (fun e m => endK f78 m0 .nrm e m) (endK f78 m0) = G78_0 call n m0 m := by kernel_rfl
def k78_0 (call : Nat → List AV → Mem → Rho) (n : Nat) (m0 : Mem) : KN := (fun e m => endK f78 m0 .nrm e m)
def x78_0 (call : Nat → List AV → Mem → Rho) (n : Nat) (m0 : Mem) : KX := (endK f78 m0)
def S78_0 (call : Nat → List AV → Mem → Rho) (n : Nat) (m0 : Mem) (m : Mem) : Rho := G78_0 call n m0 m
theorem s78_0 (call : Nat → List AV → Mem → Rho) (n : Nat) (m0 : Mem) (m : Mem) : evK call n b78_0 [] m (fun e m => endK f78 m0 .nrm e m) (endK f78 m0) = S78_0 call n m0 m :=
  have h : evK call n b78_0 [] m (fun e m => endK f78 m0 .nrm e m) (endK f78 m0) = G78_0 call n m0 m := Eq.mp (by kernel_rfl) (g78_0 call n m0 m)
  h
def d78_0 (call : Nat → List AV → Mem → Rho) (n : Nat) (m0 : Mem) (m : Mem) : Rho := evK call n b78_0 [] m (k78_0 call n m0) (x78_0 call n m0)
theorem l78_0 {call : Nat → List AV → Mem → Rho} {n : Nat} {m0 : Mem} : d78_0 call n m0 = S78_0 call n m0 := by funext m; exact Eq.mp (by kernel_rfl) (s78_0 call n m0 m)
def G78 (call : Nat → List AV → Mem → Rho) (n : Nat) (m0 : Mem) (Q78_0 : Mem → Rho) (y0 : AV) (m : Mem) : Rho :=
  condK y0
  (retK false false m0 [(.int .i64 1)] m)
  (Q78_0 m)
theorem g78 (call : Nat → List AV → Mem → Rho) (n : Nat) (m0 : Mem) (b78_0 : C) (y0 : AV) (m : Mem) : evK call n (c78 b78_0) [(0, y0)] m (fun e m => endK f78 m0 .nrm e m) (endK f78 m0) = G78 call n m0 (fun m => evK call n b78_0 [] m (fun e m => endK f78 m0 .nrm e m) (endK f78 m0)) y0 m := by kernel_rfl
def S78 (call : Nat → List AV → Mem → Rho) (n : Nat) (m0 : Mem) (y0 : AV) : Rho := G78 call n m0 (S78_0 call n m0) y0 { m0 with bad := none }
theorem s78 (call : Nat → List AV → Mem → Rho) (n : Nat) (m0 : Mem) (y0 : AV) : bodyK call n f78 [y0] m0 = S78 call n m0 y0 :=
  have h : bodyK call n f78 [y0] m0 = G78 call n m0 (d78_0 call n m0) y0 { m0 with bad := none } := Eq.mp (by kernel_rfl) (g78 call n m0 b78_0 y0 { m0 with bad := none })
  by rw [l78_0] at h; exact h
def F78 : SF := fun call n vs m0 => unc vs fun x0 vs => unz vs (S78 call n m0 x0)
theorem F78_ok {orc : List AV → Mem → Option (AV × Mem)} : SOk 78 { f78 with orc := orc } F78 := by
  intro call n vs m0 ho r h0
  simp only [F78] at h0
  obtain ⟨y0, v0, rfl, h1⟩ := unc_some h0
  obtain ⟨rfl, hz⟩ := unz_some h1
  exact bodyK_le ho rfl r (Eq.mp (by kernel_rfl) ((s78 call n m0 y0).trans hz))

-- slices.Index[[]int,int]
def G79_3 (call : Nat → List AV → Mem → Rho) (n : Nat) (m0 : Mem) (m : Mem) : Rho :=
  retK false false m0 [(.int .i64 (-1))] m
theorem g79_3 (call : Nat → List AV → Mem → Rho) (n : Nat) (m0 : Mem) (m : Mem) : evK call n b79_3 [] m (fun e m => endK f79 m0 .nrm e m) (endK f79 m0) = G79_3 call n m0 m := by kernel_rfl
def k79_3 (call : Nat → List AV → Mem → Rho) (n : Nat) (m0 : Mem) : KN := (fun e m => endK f79 m0 .nrm e m)
def x79_3 (call : Nat → List AV → Mem → Rho) (n : Nat) (m0 : Mem) : KX := (endK f79 m0)
def S79_3 (call : Nat → List AV → Mem → Rho) (n : Nat) (m0 : Mem) (m : Mem) : Rho := G79_3 call n m0 m
theorem s79_3 (call : Nat → List AV → Mem → Rho) (n : Nat) (m0 : Mem) (m : Mem) : evK call n b79_3 [] m (fun e m => endK f79 m0 .nrm e m) (endK f79 m0) = S79_3 call n m0 m :=
  have h : evK call n b79_3 [] m (fun e m => endK f79 m0 .nrm e m) (endK f79 m0) = G79_3 call n m0 m := Eq.mp (by kernel_rfl) (g79_3 call n m0 m)
  h
def d79_3 (call : Nat → List AV → Mem → Rho) (n : Nat) (m0 : Mem) (m : Mem) : Rho := evK call n b79_3 [] m (k79_3 call n m0) (x79_3 call n m0)
theorem l79_3 {call : Nat → List AV → Mem → Rho} {n : Nat} {m0 : Mem} : d79_3 call n m0 = S79_3 call n m0 := by funext m; exact Eq.mp (by kernel_rfl) (s79_3 call n m0 m)
def G79_0 (call : Nat → List AV → Mem → Rho) (n : Nat) (kn : KN) (kx : KX) (y0 y1 y2 y3 : AV) (m : Mem) : Rho :=
  binK .add y3 (.int .i64 1) fun a0 =>
  kn [(0, y0), (1, y1), (7, y2), (8, a0)] m
theorem g79_0 (call : Nat → List AV → Mem → Rho) (n : Nat) (kn : KN) (kx : KX) (y0 y1 y2 y3 : AV) (m : Mem) : evK call n b79_0 [(0, y0), (1, y1), (7, y2), (8, y3)] m kn kx = G79_0 call n kn kx y0 y1 y2 y3 m := by kernel_rfl
def k79_0 (call : Nat → List AV → Mem → Rho) (n : Nat) (kn : KN) (kx : KX) : KN := kn
def x79_0 (call : Nat → List AV → Mem → Rho) (n : Nat) (kn : KN) (kx : KX) : KX := kx
def S79_0 (call : Nat → List AV → Mem → Rho) (n : Nat) (kn : KN) (kx : KX) (y0 y1 y2 y3 : AV) (m : Mem) : Rho := G79_0 call n kn kx y0 y1 y2 y3 m
theorem s79_0 (call : Nat → List AV → Mem → Rho) (n : Nat) (kn : KN) (kx : KX) (y0 y1 y2 y3 : AV) (m : Mem) : evK call n b79_0 [(0, y0), (1, y1), (7, y2), (8, y3)] m kn kx = S79_0 call n kn kx y0 y1 y2 y3 m :=
  have h : evK call n b79_0 [(0, y0), (1, y1), (7, y2), (8, y3)] m kn kx = G79_0 call n kn kx y0 y1 y2 y3 m := Eq.mp (by kernel_rfl) (g79_0 call n kn kx y0 y1 y2 y3 m)
  h
def d79_0 (call : Nat → List AV → Mem → Rho) (n : Nat) (kn : KN) (kx : KX) (y0 y1 y2 y3 : AV) (m : Mem) : Rho := evK call n b79_0 [(0, y0), (1, y1), (7, y2), (8, y3)] m (k79_0 call n kn kx) (x79_0 call n kn kx)
theorem l79_0 {call : Nat → List AV → Mem → Rho} {n : Nat} {kn : KN} {kx : KX} : d79_0 call n kn kx = S79_0 call n kn kx := by funext y0 y1 y2 y3 m; exact Eq.mp (by kernel_rfl) (s79_0 call n kn kx y0 y1 y2 y3 m)
def G79_1 (call : Nat → List AV → Mem → Rho) (n : Nat) (kn : KN) (kx : KX) (Q79_0 : AV → AV → AV → AV → Mem → Rho) (y0 y1 y2 y3 : AV) (m : Mem) : Rho :=
  vK (aIndexAddr m 1 y0 y3) m fun a0 m1 =>
  loadK none a0 m1 fun a2 m3 =>
  binK .eql y1 a2 fun a4 =>
  condK a4
  (kx .ret [(4, y3)] m3)
  (Q79_0 y0 y1 y2 y3 m3)
theorem g79_1 (call : Nat → List AV → Mem → Rho) (n : Nat) (kn : KN) (kx : KX) (b79_0 : C) (y0 y1 y2 y3 : AV) (m : Mem) : evK call n (c79_1 b79_0) [(0, y0), (1, y1), (7, y2), (8, y3)] m kn kx = G79_1 call n kn kx (fun x0 x1 x2 x3 m => evK call n b79_0 [(0, x0), (1, x1), (7, x2), (8, x3)] m kn kx) y0 y1 y2 y3 m := by kernel_rfl
def k79_1 (call : Nat → List AV → Mem → Rho) (n : Nat) (kn : KN) (kx : KX) : KN := kn
def x79_1 (call : Nat → List AV → Mem → Rho) (n : Nat) (kn : KN) (kx : KX) : KX := kx
def S79_1 (call : Nat → List AV → Mem → Rho) (n : Nat) (kn : KN) (kx : KX) (y0 y1 y2 y3 : AV) (m : Mem) : Rho := G79_1 call n kn kx (S79_0 call n kn kx) y0 y1 y2 y3 m
theorem s79_1 (call : Nat → List AV → Mem → Rho) (n : Nat) (kn : KN) (kx : KX) (y0 y1 y2 y3 : AV) (m : Mem) : evK call n b79_1 [(0, y0), (1, y1), (7, y2), (8, y3)] m kn kx = S79_1 call n kn kx y0 y1 y2 y3 m :=
  have h : evK call n b79_1 [(0, y0), (1, y1), (7, y2), (8, y3)] m kn kx = G79_1 call n kn kx (d79_0 call n kn kx) y0 y1 y2 y3 m := Eq.mp (by kernel_rfl) (g79_1 call n kn kx b79_0 y0 y1 y2 y3 m)
  by rw [l79_0] at h; exact h
def d79_1 (call : Nat → List AV → Mem → Rho) (n : Nat) (kn : KN) (kx : KX) (y0 y1 y2 y3 : AV) (m : Mem) : Rho := evK call n b79_1 [(0, y0), (1, y1), (7, y2), (8, y3)] m (k79_1 call n kn kx) (x79_1 call n kn kx)
theorem l79_1 {call : Nat → List AV → Mem → Rho} {n : Nat} {kn : KN} {kx : KX} : d79_1 call n kn kx = S79_1 call n kn kx := by funext y0 y1 y2 y3 m; exact Eq.mp (by kernel_rfl) (s79_1 call n kn kx y0 y1 y2 y3 m)
def G79_2 (call : Nat → List AV → Mem → Rho) (n : Nat) (kn : KN) (kx : KX) (Q79_1 : AV → AV → AV → AV → Mem → Rho) (y0 y1 y2 y3 : AV) (m : Mem) : Rho :=
  binK .lss y3 y2 fun a0 =>
  condK a0
  (Q79_1 y0 y1 y2 y3 m)
  (kx (.ext 0) [(0, y0), (1, y1), (7, y2), (8, y3), (9, a0)] m)
theorem g79_2 (call : Nat → List AV → Mem → Rho) (n : Nat) (kn : KN) (kx : KX) (b79_1 : C) (y0 y1 y2 y3 : AV) (m : Mem) : evK call n (c79_2 b79_1) [(0, y0), (1, y1), (7, y2), (8, y3)] m kn kx = G79_2 call n kn kx (fun x0 x1 x2 x3 m => evK call n b79_1 [(0, x0), (1, x1), (7, x2), (8, x3)] m kn kx) y0 y1 y2 y3 m := by kernel_rfl
def S79_2 (call : Nat → List AV → Mem → Rho) (n : Nat) (kn : KN) (kx : KX) (y0 y1 y2 y3 : AV) (m : Mem) : Rho := G79_2 call n kn kx (S79_1 call n kn kx) y0 y1 y2 y3 m
theorem s79_2 (call : Nat → List AV → Mem → Rho) (n : Nat) (kn : KN) (kx : KX) (y0 y1 y2 y3 : AV) (m : Mem) : evK call n b79_2 [(0, y0), (1, y1), (7, y2), (8, y3)] m kn kx = S79_2 call n kn kx y0 y1 y2 y3 m :=
  have h : evK call n b79_2 [(0, y0), (1, y1), (7, y2), (8, y3)] m kn kx = G79_2 call n kn kx (d79_1 call n kn kx) y0 y1 y2 y3 m := Eq.mp (by kernel_rfl) (g79_2 call n kn kx b79_1 y0 y1 y2 y3 m)
  by rw [l79_1] at h; exact h
def d79_2 (call : Nat → List AV → Mem → Rho) (n : Nat) (kn : KN) (kx : KX) (y0 y1 y2 y3 : AV) (m : Mem) : Rho := evK call n b79_2 [(0, y0), (1, y1), (7, y2), (8, y3)] m kn kx
theorem l79_2 {call : Nat → List AV → Mem → Rho} {n : Nat} : d79_2 call n = S79_2 call n := by funext kn kx y0 y1 y2 y3 m; exact Eq.mp (by kernel_rfl) (s79_2 call n kn kx y0 y1 y2 y3 m)
def G79 (call : Nat → List AV → Mem → Rho) (n : Nat) (m0 : Mem) (B79_2 : KN → KX → AV → AV → AV → AV → Mem → Rho) (Q79_3 : Mem → Rho) (y0 y1 : AV) (m : Mem) : Rho :=
  vK (aLen m 1 y0) m fun a0 m1 =>
  loopV [0, 1, 7, 8] none (fun vs m kn kx => unc vs fun x0 vs => unc vs fun x1 vs => unc vs fun x2 vs => unc vs fun x3 vs => unz vs (B79_2 kn kx x0 x1 x2 x3 m)) (blkK 0 (fun e m => keepK e [] fun vs => unz vs (Q79_3 m)) (endK f79 m0)) n [y0, y1, a0, (.int .i64 0)] m1
theorem g79 (call : Nat → List AV → Mem → Rho) (n : Nat) (m0 : Mem) (b79_2 : C) (b79_3 : C) (y0 y1 : AV) (m : Mem) : evK call n (c79 b79_2 b79_3) [(0, y0), (1, y1)] m (fun e m => endK f79 m0 .nrm e m) (endK f79 m0) = G79 call n m0 (fun kn kx x0 x1 x2 x3 m => evK call n b79_2 [(0, x0), (1, x1), (7, x2), (8, x3)] m kn kx) (fun m => evK call n b79_3 [] m (fun e m => endK f79 m0 .nrm e m) (endK f79 m0)) y0 y1 m := by kernel_rfl
def S79 (call : Nat → List AV → Mem → Rho) (n : Nat) (m0 : Mem) (y0 y1 : AV) : Rho := G79 call n m0 (S79_2 call n) (S79_3 call n m0) y0 y1 { m0 with bad := none }
theorem s79 (call : Nat → List AV → Mem → Rho) (n : Nat) (m0 : Mem) (y0 y1 : AV) : bodyK call n f79 [y0, y1] m0 = S79 call n m0 y0 y1 :=
  have h : bodyK call n f79 [y0, y1] m0 = G79 call n m0 (d79_2 call n) (d79_3 call n m0) y0 y1 { m0 with bad := none } := Eq.mp (by kernel_rfl) (g79 call n m0 b79_2 b79_3 y0 y1 { m0 with bad := none })
  by rw [l79_2, l79_3] at h; exact h
def F79 : SF := fun call n vs m0 => unc vs fun x0 vs => unc vs fun x1 vs => unz vs (S79 call n m0 x0 x1)
theorem F79_ok {orc : List AV → Mem → Option (AV × Mem)} : SOk 79 { f79 with orc := orc } F79 := by
  intro call n vs m0 ho r h0
  simp only [F79] at h0
  obtain ⟨y0, v0, rfl, h1⟩ := unc_some h0
  obtain ⟨y1, v1, rfl, h2⟩ := unc_some h1
  obtain ⟨rfl, hz⟩ := unz_some h2
  exact bodyK_le ho rfl r (Eq.mp (by kernel_rfl) ((s79 call n m0 y0 y1).trans hz))

-- (*resolvent/pos.table).take$1
def G80_0 (call : Nat → List AV → Mem → Rho) (n : Nat) (m0 : Mem) (y0 y1 y2 y3 y4 : AV) (m : Mem) : Rho :=
  loadK none y2 m fun a0 m1 =>
  nilK a0 fun a2 =>
  vK (aFieldAddr 0 1 a2) m1 fun a3 m4 =>
  loadK none a3 m4 fun a5 m6 =>
  binK .sub y0 (.int .i64 2) fun a7 =>
  vK (aIndexAddr m6 3 a5 a7) m6 fun a8 m9 =>
  loadK (some 3) a8 m9 fun a10 m11 =>
  newK [(.int .i64 0), (.int .i64 0), (.int .i64 0)] m11 fun a12 m13 =>
  storeK 3 a12 a10 m13 fun a14 m15 =>
  loadK none y3 m15 fun a16 m17 =>
  vK (aFieldAddr 1 1 a12) m17 fun a18 m19 =>
  loadK none a18 m19 fun a20 m21 =>
  callK call a16 false [a20] m21 fun a22 m23 =>
  loadK none y3 m23 fun a24 m25 =>
  vK (aFieldAddr 2 1 a12) m25 fun a26 m27 =>
  loadK none a26 m27 fun a28 m29 =>
  callK call a24 false [a28] m29 fun a30 m31 =>
  vK (aFieldAddr 0 1 y4) m31 fun a32 m33 =>
  loadK none a32 m33 fun a34 m35 =>
  vK (aFieldAddr 0 1 a12) m35 fun a36 m37 =>
  loadK none a36 m37 fun a38 m39 =>
  buildK [(.int .i64 0), (.int .i64 0), (.int .i64 0)] [(0, 1, AV.untag1 a38), (1, 1, AV.untag1 a22), (2, 1, AV.untag1 a30)] fun a40 =>
  buildSliceK 3 [(.int .i64 0), (.int .i64 0), (.int .i64 0)] 1 false [(0 * 3, 3, AV.untag a40)] m39 fun a41 m42 =>
  appendK 3 24 0 a34 a41 m42 fun a43 m44 =>
  vK (aFieldAddr 0 1 y4) m44 fun a45 m46 =>
  storeK 1 a45 a43 m46 fun a47 m48 =>
  loadK none y1 m48 fun a49 m50 =>
  vK (aFieldAddr 0 1 y4) m50 fun a51 m52 =>
  loadK none a51 m52 fun a53 m54 =>
  vK (aLen m54 1 a53) m54 fun a55 m56 =>
  binK .add a55 (.int .i64 1) fun a57 =>
  mapUpdateK ⟨[.i], false⟩ a49 y0 a57 m56 fun a58 m59 =>
  loadK none y1 m59 fun a60 m61 =>
  lookupK ⟨[.i], false⟩ (.int .i64 0) false a60 y0 m61 fun a62 =>
  retK false false m0 [a62] m61
theorem g80_0 (call : Nat → List AV → Mem → Rho) (n : Nat) (m0 : Mem) (y0 y1 y2 y3 y4 : AV) (m : Mem) : evK call n b80_0 [(0, y0), (1, y1), (2, y2), (3, y3), (4, y4)] m (fun e m => endK f80 m0 .nrm e m) (endK f80 m0) = G80_0 call n m0 y0 y1 y2 y3 y4 m := by kernel_rfl
def k80_0 (call : Nat → List AV → Mem → Rho) (n : Nat) (m0 : Mem) : KN := (fun e m => endK f80 m0 .nrm e m)
def x80_0 (call : Nat → List AV → Mem → Rho) (n : Nat) (m0 : Mem) : KX := (endK f80 m0)
def S80_0 (call : Nat → List AV → Mem → Rho) (n : Nat) (m0 : Mem) (y0 y1 y2 y3 y4 : AV) (m : Mem) : Rho := G80_0 call n m0 y0 y1 y2 y3 y4 m
theorem s80_0 (call : Nat → List AV → Mem → Rho) (n : Nat) (m0 : Mem) (y0 y1 y2 y3 y4 : AV) (m : Mem) : evK call n b80_0 [(0, y0), (1, y1), (2, y2), (3, y3), (4, y4)] m (fun e m => endK f80 m0 .nrm e m) (endK f80 m0) = S80_0 call n m0 y0 y1 y2 y3 y4 m :=
  have h : evK call n b80_0 [(0, y0), (1, y1), (2, y2), (3, y3), (4, y4)] m (fun e m => endK f80 m0 .nrm e m) (endK f80 m0) = G80_0 call n m0 y0 y1 y2 y3 y4 m := Eq.mp (by kernel_rfl) (g80_0 call n m0 y0 y1 y2 y3 y4 m)
  h
def d80_0 (call : Nat → List AV → Mem → Rho) (n : Nat) (m0 : Mem) (y0 y1 y2 y3 y4 : AV) (m : Mem) : Rho := evK call n b80_0 [(0, y0), (1, y1), (2, y2), (3, y3), (4, y4)] m (k80_0 call n m0) (x80_0 call n m0)
theorem l80_0 {call : Nat → List AV → Mem → Rho} {n : Nat} {m0 : Mem} : d80_0 call n m0 = S80_0 call n m0 := by funext y0 y1 y2 y3 y4 m; exact Eq.mp (by kernel_rfl) (s80_0 call n m0 y0 y1 y2 y3 y4 m)
def G80 (call : Nat → List AV → Mem → Rho) (n : Nat) (m0 : Mem) (Q80_0 : AV → AV → AV → AV → AV → Mem → Rho) (y0 y1 y2 y3 y4 : AV) (m : Mem) : Rho :=
  loadK none y1 m fun a0 m1 =>
  lookupK ⟨[.i], false⟩ (.int .i64 0) true a0 y0 m1 fun a2 =>
  extractK a2 0 fun a3 =>
  extractK a2 1 fun a4 =>
  condK a4
  (retK false false m0 [a3] m1)
  (Q80_0 y0 y1 y2 y3 y4 m1)
theorem g80 (call : Nat → List AV → Mem → Rho) (n : Nat) (m0 : Mem) (b80_0 : C) (y0 y1 y2 y3 y4 : AV) (m : Mem) : evK call n (c80 b80_0) [(0, y0), (1, y1), (2, y2), (3, y3), (4, y4)] m (fun e m => endK f80 m0 .nrm e m) (endK f80 m0) = G80 call n m0 (fun x0 x1 x2 x3 x4 m => evK call n b80_0 [(0, x0), (1, x1), (2, x2), (3, x3), (4, x4)] m (fun e m => endK f80 m0 .nrm e m) (endK f80 m0)) y0 y1 y2 y3 y4 m := by kernel_rfl
def S80 (call : Nat → List AV → Mem → Rho) (n : Nat) (m0 : Mem) (y0 y1 y2 y3 y4 : AV) : Rho := G80 call n m0 (S80_0 call n m0) y0 y1 y2 y3 y4 { m0 with bad := none }
theorem s80 (call : Nat → List AV → Mem → Rho) (n : Nat) (m0 : Mem) (y0 y1 y2 y3 y4 : AV) : bodyK call n f80 [y0, y1, y2, y3, y4] m0 = S80 call n m0 y0 y1 y2 y3 y4 :=
  have h : bodyK call n f80 [y0, y1, y2, y3, y4] m0 = G80 call n m0 (d80_0 call n m0) y0 y1 y2 y3 y4 { m0 with bad := none } := Eq.mp (by kernel_rfl) (g80 call n m0 b80_0 y0 y1 y2 y3 y4 { m0 with bad := none })
  by rw [l80_0] at h; exact h
def F80 : SF := fun call n vs m0 => unc vs fun x0 vs => unc vs fun x1 vs => unc vs fun x2 vs => unc vs fun x3 vs => unc vs fun x4 vs => unz vs (S80 call n m0 x0 x1 x2 x3 x4)
theorem F80_ok {orc : List AV → Mem → Option (AV × Mem)} : SOk 80 { f80 with orc := orc } F80 := by
  intro call n vs m0 ho r h0
  simp only [F80] at h0
  obtain ⟨y0, v0, rfl, h1⟩ := unc_some h0
  obtain ⟨y1, v1, rfl, h2⟩ := unc_some h1
  obtain ⟨y2, v2, rfl, h3⟩ := unc_some h2
  obtain ⟨y3, v3, rfl, h4⟩ := unc_some h3
  obtain ⟨y4, v4, rfl, h5⟩ := unc_some h4
  obtain ⟨rfl, hz⟩ := unz_some h5
  exact bodyK_le ho rfl r (Eq.mp (by kernel_rfl) ((s80 call n m0 y0 y1 y2 y3 y4).trans hz))

def tr : Tr := (.node 47 F47 (.node 19 F19 (.node 12 F12 (.node 10 F10 (.node 3 F3 .leaf .leaf) (.node 11 F11 .leaf .leaf)) (.node 14 F14 (.node 13 F13 .leaf .leaf) (.node 15 F15 .leaf .leaf))) (.node 25 F25 (.node 23 F23 (.node 22 F22 .leaf .leaf) (.node 24 F24 .leaf .leaf)) (.node 45 F45 (.node 44 F44 .leaf .leaf) (.node 46 F46 .leaf .leaf)))) (.node 60 F60 (.node 51 F51 (.node 49 F49 (.node 48 F48 .leaf .leaf) (.node 50 F50 .leaf .leaf)) (.node 53 F53 (.node 52 F52 .leaf .leaf) (.node 59 F59 .leaf .leaf))) (.node 78 F78 (.node 76 F76 (.node 75 F75 .leaf .leaf) (.node 77 F77 .leaf .leaf)) (.node 80 F80 (.node 79 F79 .leaf .leaf) .leaf))))
theorem tr_good : tr.Good T := ⟨⟨_, rfl, F47_ok⟩, ⟨⟨_, rfl, F19_ok⟩, ⟨⟨_, rfl, F12_ok⟩, ⟨⟨_, rfl, F10_ok⟩, ⟨⟨_, rfl, F3_ok⟩, trivial, trivial⟩, ⟨⟨_, rfl, F11_ok⟩, trivial, trivial⟩⟩, ⟨⟨_, rfl, F14_ok⟩, ⟨⟨_, rfl, F13_ok⟩, trivial, trivial⟩, ⟨⟨_, rfl, F15_ok⟩, trivial, trivial⟩⟩⟩, ⟨⟨_, rfl, F25_ok⟩, ⟨⟨_, rfl, F23_ok⟩, ⟨⟨_, rfl, F22_ok⟩, trivial, trivial⟩, ⟨⟨_, rfl, F24_ok⟩, trivial, trivial⟩⟩, ⟨⟨_, rfl, F45_ok⟩, ⟨⟨_, rfl, F44_ok⟩, trivial, trivial⟩, ⟨⟨_, rfl, F46_ok⟩, trivial, trivial⟩⟩⟩⟩, ⟨⟨_, rfl, F60_ok⟩, ⟨⟨_, rfl, F51_ok⟩, ⟨⟨_, rfl, F49_ok⟩, ⟨⟨_, rfl, F48_ok⟩, trivial, trivial⟩, ⟨⟨_, rfl, F50_ok⟩, trivial, trivial⟩⟩, ⟨⟨_, rfl, F53_ok⟩, ⟨⟨_, rfl, F52_ok⟩, trivial, trivial⟩, ⟨⟨_, rfl, F59_ok⟩, trivial, trivial⟩⟩⟩, ⟨⟨_, rfl, F78_ok⟩, ⟨⟨_, rfl, F76_ok⟩, ⟨⟨_, rfl, F75_ok⟩, trivial, trivial⟩, ⟨⟨_, rfl, F77_ok⟩, trivial, trivial⟩⟩, ⟨⟨_, rfl, F80_ok⟩, ⟨⟨_, rfl, F79_ok⟩, trivial, trivial⟩, trivial⟩⟩⟩⟩
end
end Go.Proofs.P16
