import Derived.Test.YtdddcofggemnkaaP16ShA
namespace Go.Proofs.P16
set_option linter.all false
open Go Go.Am
noncomputable section
-- resolvent/pos.Rename
def G26_7 (call : CL) (n : Nat) (m0 : Mem) (y0 y1 y2 : AV) (m : Mem) : Rho :=
  vK (aLen m 1 y2) m fun a0 m1 =>
  binK .sub a0 (.int .i64 1) fun a2 =>
  vK (aIndexAddr m1 1 y2 a2) m1 fun a3 m4 =>
  loadK none a3 m4 fun a5 m6 =>
  callK call (.func 51 [] []) false [y1, a5] m6 fun a7 m8 =>
  storeK 2 y0 a7 m8 fun a9 m10 =>
  loadK (some 2) y0 m10 fun a11 _ =>
  retK false false m0 [a11] m10
theorem g26_7 (call : CL) (n : Nat) (m0 : Mem) (y0 y1 y2 : AV) (m : Mem) : evK call n b26_7 [(4, y0), (8, y1), (9, y2)] m (fun e m => endK f26 m0 .nrm e m) (endK f26 m0) = G26_7 call n m0 y0 y1 y2 m := by kernel_rfl
def k26_7 (call : CL) (n : Nat) (m0 : Mem) : KN := (fun e m => endK f26 m0 .nrm e m)
def x26_7 (call : CL) (n : Nat) (m0 : Mem) : KX := (endK f26 m0)
def S26_7 (call : CL) (n : Nat) (m0 : Mem) (y0 y1 y2 : AV) (m : Mem) : Rho := G26_7 call n m0 y0 y1 y2 m
def d26_7 (call : CL) (n : Nat) (m0 : Mem) (y0 y1 y2 : AV) (m : Mem) : Rho := evK call n b26_7 [(4, y0), (8, y1), (9, y2)] m (k26_7 call n m0) (x26_7 call n m0)
theorem l26_7 {call : CL} {n : Nat} {m0 : Mem} : d26_7 call n m0 = S26_7 call n m0 := by
  funext y0 y1 y2 m
  have h : d26_7 call n m0 y0 y1 y2 m = G26_7 call n m0 y0 y1 y2 m := Eq.mp (by kernel_rfl) (g26_7 call n m0 y0 y1 y2 m)
  exact h
def G26_8 (call : CL) (n : Nat) (m0 : Mem) (Q26_7 : Y3) (y0 y1 y2 y3 : AV) (m : Mem) : Rho :=
  vK (aFieldAddr 0 1 y0) m fun a0 m1 =>
  loadK none a0 m1 fun a2 m3 =>
  vK (aLen m3 1 a2) m3 fun a4 m5 =>
  binK .eql a4 (.int .i64 0) fun a6 =>
  condK a6
  (loadK (some 2) y0 m5 fun a7 m8 =>
  storeK 2 y1 a7 m8 fun a9 m10 =>
  loadK (some 2) y1 m10 fun a11 _ =>
  retK false false m0 [a11] m10)
  (Q26_7 y1 y2 y3 m5)
theorem g26_8 (call : CL) (n : Nat) (m0 : Mem) (b26_7 : C) (y0 y1 y2 y3 : AV) (m : Mem) : evK call n (c26_8 b26_7) [(2, y0), (4, y1), (8, y2), (9, y3)] m (fun e m => endK f26 m0 .nrm e m) (endK f26 m0) = G26_8 call n m0 (fun x0 x1 x2 m => evK call n b26_7 [(4, x0), (8, x1), (9, x2)] m (fun e m => endK f26 m0 .nrm e m) (endK f26 m0)) y0 y1 y2 y3 m := by kernel_rfl
def k26_8 (call : CL) (n : Nat) (m0 : Mem) : KN := (fun e m => endK f26 m0 .nrm e m)
def x26_8 (call : CL) (n : Nat) (m0 : Mem) : KX := (endK f26 m0)
def S26_8 (call : CL) (n : Nat) (m0 : Mem) (y0 y1 y2 y3 : AV) (m : Mem) : Rho := G26_8 call n m0 (S26_7 call n m0) y0 y1 y2 y3 m
def d26_8 (call : CL) (n : Nat) (m0 : Mem) (y0 y1 y2 y3 : AV) (m : Mem) : Rho := evK call n b26_8 [(2, y0), (4, y1), (8, y2), (9, y3)] m (k26_8 call n m0) (x26_8 call n m0)
theorem l26_8 {call : CL} {n : Nat} {m0 : Mem} : d26_8 call n m0 = S26_8 call n m0 := by
  funext y0 y1 y2 y3 m
  have h : d26_8 call n m0 y0 y1 y2 y3 m = G26_8 call n m0 (d26_7 call n m0) y0 y1 y2 y3 m := Eq.mp (by kernel_rfl) (g26_8 call n m0 b26_7 y0 y1 y2 y3 m)
  rw [l26_7] at h; exact h
def G26_5 (call : CL) (n : Nat) (kn : KN) (kx : KX) (y0 y1 y2 y3 y4 y5 y6 y7 : AV) (m : Mem) : Rho :=
  vK (aIndexAddr m 3 y5 y7) m fun a0 m1 =>
  loadK (some 3) a0 m1 fun a2 m3 =>
  newK [(.int .i64 0), (.int .i64 0), (.int .i64 0)] m3 fun a4 m5 =>
  storeK 3 a4 a2 m5 fun a6 m7 =>
  vK (aFieldAddr 0 1 a4) m7 fun a8 m9 =>
  loadK none a8 m9 fun a10 m11 =>
  vK (aIndexAddr m11 1 y0 a10) m11 fun a12 m13 =>
  loadK none a12 m13 fun a14 m15 =>
  callK call (.func 25 [] []) false [a14] m15 fun a16 m17 =>
  callK call (.func 48 [] []) false [y3, a16] m17 fun a18 m19 =>
  vK (aFieldAddr 2 1 a4) m19 fun a20 m21 =>
  loadK none a20 m21 fun a22 m23 =>
  vK (aIndexAddr m23 1 y4 a22) m23 fun a24 m25 =>
  loadK none a24 m25 fun a26 m27 =>
  callK call (.func 47 [] []) false [y3, a18, a26, (.func 45 [] [])] m27 fun a28 m29 =>
  callK call (.func 53 [] []) false [y3, a18] m29 fun a30 m31 =>
  vK (aFieldAddr 1 1 a4) m31 fun a32 m33 =>
  loadK none a32 m33 fun a34 m35 =>
  vK (aIndexAddr m35 1 y4 a34) m35 fun a36 m37 =>
  loadK none a36 m37 fun a38 m39 =>
  callK call (.func 47 [] []) false [y3, a30, a38, (.func 45 [] [])] m39 fun a40 m41 =>
  cond (stayK [m29, m31, m41] [(fun m => m.load none a32, a34, 0, 2, true), (fun m => m.load none a36, a38, 0, 2, true)]) (callK call (.func 47 [] []) false [y3, a28, a40, (.func 52 [] [])] m41 fun a42 m43 =>
  buildSliceK 1 [(.int .i64 0)] 1 false [(0 * 1, 1, AV.untag a42)] m43 fun a44 m45 =>
  appendK 1 8 0 y4 a44 m45 fun a46 m47 =>
  binK .add y7 (.int .i64 1) fun a48 =>
  kn [(1, y0), (2, y1), (4, y2), (8, y3), (9, a46), (52, y5), (53, y6), (54, a48)] m47) none
theorem g26_5 (call : CL) (n : Nat) (kn : KN) (kx : KX) (y0 y1 y2 y3 y4 y5 y6 y7 : AV) (m : Mem) : evK call n b26_5 [(1, y0), (2, y1), (4, y2), (8, y3), (9, y4), (52, y5), (53, y6), (54, y7)] m kn kx = G26_5 call n kn kx y0 y1 y2 y3 y4 y5 y6 y7 m := by kernel_rfl
def k26_5 (call : CL) (n : Nat) (kn : KN) (kx : KX) : KN := kn
def x26_5 (call : CL) (n : Nat) (kn : KN) (kx : KX) : KX := kx
def S26_5 (call : CL) (n : Nat) (kn : KN) (kx : KX) (y0 y1 y2 y3 y4 y5 y6 y7 : AV) (m : Mem) : Rho := G26_5 call n kn kx y0 y1 y2 y3 y4 y5 y6 y7 m
def d26_5 (call : CL) (n : Nat) (kn : KN) (kx : KX) (y0 y1 y2 y3 y4 y5 y6 y7 : AV) (m : Mem) : Rho := evK call n b26_5 [(1, y0), (2, y1), (4, y2), (8, y3), (9, y4), (52, y5), (53, y6), (54, y7)] m (k26_5 call n kn kx) (x26_5 call n kn kx)
theorem l26_5 {call : CL} {n : Nat} {kn : KN} {kx : KX} : d26_5 call n kn kx = S26_5 call n kn kx := by
  funext y0 y1 y2 y3 y4 y5 y6 y7 m
  have h : d26_5 call n kn kx y0 y1 y2 y3 y4 y5 y6 y7 m = G26_5 call n kn kx y0 y1 y2 y3 y4 y5 y6 y7 m := Eq.mp (by kernel_rfl) (g26_5 call n kn kx y0 y1 y2 y3 y4 y5 y6 y7 m)
  exact h
def G26_6 (call : CL) (n : Nat) (kn : KN) (kx : KX) (Q26_5 : Y8) (y0 y1 y2 y3 y4 y5 y6 y7 : AV) (m : Mem) : Rho :=
  binK .lss y7 y6 fun a0 =>
  condK a0
  (Q26_5 y0 y1 y2 y3 y4 y5 y6 y7 m)
  (kx (.ext 2) [(1, y0), (2, y1), (4, y2), (8, y3), (9, y4), (52, y5), (53, y6), (54, y7), (55, a0)] m)
theorem g26_6 (call : CL) (n : Nat) (kn : KN) (kx : KX) (b26_5 : C) (y0 y1 y2 y3 y4 y5 y6 y7 : AV) (m : Mem) : evK call n (c26_6 b26_5) [(1, y0), (2, y1), (4, y2), (8, y3), (9, y4), (52, y5), (53, y6), (54, y7)] m kn kx = G26_6 call n kn kx (fun x0 x1 x2 x3 x4 x5 x6 x7 m => evK call n b26_5 [(1, x0), (2, x1), (4, x2), (8, x3), (9, x4), (52, x5), (53, x6), (54, x7)] m kn kx) y0 y1 y2 y3 y4 y5 y6 y7 m := by kernel_rfl
def S26_6 (call : CL) (n : Nat) (kn : KN) (kx : KX) (y0 y1 y2 y3 y4 y5 y6 y7 : AV) (m : Mem) : Rho := G26_6 call n kn kx (S26_5 call n kn kx) y0 y1 y2 y3 y4 y5 y6 y7 m
def d26_6 (call : CL) (n : Nat) (kn : KN) (kx : KX) (y0 y1 y2 y3 y4 y5 y6 y7 : AV) (m : Mem) : Rho := evK call n b26_6 [(1, y0), (2, y1), (4, y2), (8, y3), (9, y4), (52, y5), (53, y6), (54, y7)] m kn kx
theorem l26_6 {call : CL} {n : Nat} : d26_6 call n = S26_6 call n := by
  funext kn kx y0 y1 y2 y3 y4 y5 y6 y7 m
  have h : d26_6 call n kn kx y0 y1 y2 y3 y4 y5 y6 y7 m = G26_6 call n kn kx (d26_5 call n kn kx) y0 y1 y2 y3 y4 y5 y6 y7 m := Eq.mp (by kernel_rfl) (g26_6 call n kn kx b26_5 y0 y1 y2 y3 y4 y5 y6 y7 m)
  rw [l26_5] at h; exact h
def G26_9 (call : CL) (n : Nat) (m0 : Mem) (B26_6 : KN → KX → Y8) (Q26_8 : Y4) (y0 y1 y2 : AV) (m : Mem) : Rho :=
  callK call (.func 46 [] []) false [] m fun a0 m1 =>
  buildSliceK 1 [(.int .i64 0)] 2 false [(0 * 1, 1, AV.untag (.int .i64 0)), (1 * 1, 1, AV.untag (.int .i64 1))] m1 fun a2 m3 =>
  vK (aFieldAddr 0 1 y1) m3 fun a4 m5 =>
  loadK none a4 m5 fun a6 m7 =>
  vK (aLen m7 1 a6) m7 fun a8 m9 =>
  loopV [1, 2, 4, 8, 9, 52, 53, 54] none (fun vs m kn kx => unc vs fun x0 vs => unc vs fun x1 vs => unc vs fun x2 vs => unc vs fun x3 vs => unc vs fun x4 vs => unc vs fun x5 vs => unc vs fun x6 vs => unc vs fun x7 vs => unz vs (B26_6 kn kx x0 x1 x2 x3 x4 x5 x6 x7 m)) (blkK 2 (fun e m => keepK e [2, 4, 8, 9] fun vs => unc vs fun x0 vs => unc vs fun x1 vs => unc vs fun x2 vs => unc vs fun x3 vs => unz vs (Q26_8 x0 x1 x2 x3 m)) (endK f26 m0)) n [y0, y1, y2, a0, a2, a6, a8, (.int .i64 0)] m9
theorem g26_9 (call : CL) (n : Nat) (m0 : Mem) (b26_6 : C) (b26_8 : C) (y0 y1 y2 : AV) (m : Mem) : evK call n (c26_9 b26_6 b26_8) [(1, y0), (2, y1), (4, y2)] m (fun e m => endK f26 m0 .nrm e m) (endK f26 m0) = G26_9 call n m0 (fun kn kx x0 x1 x2 x3 x4 x5 x6 x7 m => evK call n b26_6 [(1, x0), (2, x1), (4, x2), (8, x3), (9, x4), (52, x5), (53, x6), (54, x7)] m kn kx) (fun x0 x1 x2 x3 m => evK call n b26_8 [(2, x0), (4, x1), (8, x2), (9, x3)] m (fun e m => endK f26 m0 .nrm e m) (endK f26 m0)) y0 y1 y2 m := by kernel_rfl
def k26_9 (call : CL) (n : Nat) (m0 : Mem) : KN := (fun e m => endK f26 m0 .nrm e m)
def x26_9 (call : CL) (n : Nat) (m0 : Mem) : KX := (endK f26 m0)
def S26_9 (call : CL) (n : Nat) (m0 : Mem) (y0 y1 y2 : AV) (m : Mem) : Rho := G26_9 call n m0 (S26_6 call n) (S26_8 call n m0) y0 y1 y2 m
def d26_9 (call : CL) (n : Nat) (m0 : Mem) (y0 y1 y2 : AV) (m : Mem) : Rho := evK call n b26_9 [(1, y0), (2, y1), (4, y2)] m (k26_9 call n m0) (x26_9 call n m0)
theorem l26_9 {call : CL} {n : Nat} {m0 : Mem} : d26_9 call n m0 = S26_9 call n m0 := by
  funext y0 y1 y2 m
  have h : d26_9 call n m0 y0 y1 y2 m = G26_9 call n m0 (d26_6 call n) (d26_8 call n m0) y0 y1 y2 m := Eq.mp (by kernel_rfl) (g26_9 call n m0 b26_6 b26_8 y0 y1 y2 m)
  rw [l26_6, l26_8] at h; exact h
def G26_1 (call : CL) (n : Nat) (kn : KN) (kx : KX) (y0 y1 y2 y3 y4 y5 y6 : AV) (m : Mem) : Rho :=
  binK .add y6 (.int .i64 1) fun a0 =>
  kn [(1, y0), (2, y1), (4, y2), (5, y3), (17, y4), (18, y5), (19, a0)] m
theorem g26_1 (call : CL) (n : Nat) (kn : KN) (kx : KX) (y0 y1 y2 y3 y4 y5 y6 : AV) (m : Mem) : evK call n b26_1 [(1, y0), (2, y1), (4, y2), (5, y3), (17, y4), (18, y5), (19, y6)] m kn kx = G26_1 call n kn kx y0 y1 y2 y3 y4 y5 y6 m := by kernel_rfl
def k26_1 (call : CL) (n : Nat) (kn : KN) (kx : KX) : KN := kn
def x26_1 (call : CL) (n : Nat) (kn : KN) (kx : KX) : KX := kx
def S26_1 (call : CL) (n : Nat) (kn : KN) (kx : KX) (y0 y1 y2 y3 y4 y5 y6 : AV) (m : Mem) : Rho := G26_1 call n kn kx y0 y1 y2 y3 y4 y5 y6 m
def d26_1 (call : CL) (n : Nat) (kn : KN) (kx : KX) (y0 y1 y2 y3 y4 y5 y6 : AV) (m : Mem) : Rho := evK call n b26_1 [(1, y0), (2, y1), (4, y2), (5, y3), (17, y4), (18, y5), (19, y6)] m (k26_1 call n kn kx) (x26_1 call n kn kx)
theorem l26_1 {call : CL} {n : Nat} {kn : KN} {kx : KX} : d26_1 call n kn kx = S26_1 call n kn kx := by
  funext y0 y1 y2 y3 y4 y5 y6 m
  have h : d26_1 call n kn kx y0 y1 y2 y3 y4 y5 y6 m = G26_1 call n kn kx y0 y1 y2 y3 y4 y5 y6 m := Eq.mp (by kernel_rfl) (g26_1 call n kn kx y0 y1 y2 y3 y4 y5 y6 m)
  exact h
def G26_0 (call : CL) (n : Nat) (kn : KN) (kx : KX) (Q26_1 : Y7) (y0 y1 y2 y3 y4 y5 y6 y7 : AV) (m : Mem) : Rho :=
  vK (aIndexAddr m 1 y0 y4) m fun a0 m1 =>
  loadK none a0 m1 fun a2 m3 =>
  mapUpdateK ⟨[.i], false⟩ y3 a2 (.bool true) m3 fun a4 m5 =>
  Q26_1 y0 y1 y2 y3 y5 y6 y7 m5
theorem g26_0 (call : CL) (n : Nat) (kn : KN) (kx : KX) (b26_1 : C) (k26_1 : KN) (x26_1 : KX) (y0 y1 y2 y3 y4 y5 y6 y7 : AV) (m : Mem) : evK call n b26_0 [(1, y0), (2, y1), (4, y2), (5, y3), (7, y4), (17, y5), (18, y6), (19, y7)] m (jn call n [1, 2, 4, 5, 17, 18, 19] b26_1 k26_1 x26_1) (blkK 1 (jn call n [1, 2, 4, 5, 17, 18, 19] b26_1 k26_1 x26_1) kx) = G26_0 call n kn kx (fun x0 x1 x2 x3 x4 x5 x6 m => evK call n b26_1 [(1, x0), (2, x1), (4, x2), (5, x3), (17, x4), (18, x5), (19, x6)] m k26_1 x26_1) y0 y1 y2 y3 y4 y5 y6 y7 m := by kernel_rfl
def k26_0 (call : CL) (n : Nat) (kn : KN) (kx : KX) : KN := (jn call n [1, 2, 4, 5, 17, 18, 19] b26_1 (k26_1 call n kn kx) (x26_1 call n kn kx))
def x26_0 (call : CL) (n : Nat) (kn : KN) (kx : KX) : KX := (blkK 1 (jn call n [1, 2, 4, 5, 17, 18, 19] b26_1 (k26_1 call n kn kx) (x26_1 call n kn kx)) kx)
def S26_0 (call : CL) (n : Nat) (kn : KN) (kx : KX) (y0 y1 y2 y3 y4 y5 y6 y7 : AV) (m : Mem) : Rho := G26_0 call n kn kx (S26_1 call n kn kx) y0 y1 y2 y3 y4 y5 y6 y7 m
def d26_0 (call : CL) (n : Nat) (kn : KN) (kx : KX) (y0 y1 y2 y3 y4 y5 y6 y7 : AV) (m : Mem) : Rho := evK call n b26_0 [(1, y0), (2, y1), (4, y2), (5, y3), (7, y4), (17, y5), (18, y6), (19, y7)] m (k26_0 call n kn kx) (x26_0 call n kn kx)
theorem l26_0 {call : CL} {n : Nat} {kn : KN} {kx : KX} : d26_0 call n kn kx = S26_0 call n kn kx := by
  funext y0 y1 y2 y3 y4 y5 y6 y7 m
  have h : d26_0 call n kn kx y0 y1 y2 y3 y4 y5 y6 y7 m = G26_0 call n kn kx (d26_1 call n kn kx) y0 y1 y2 y3 y4 y5 y6 y7 m := Eq.mp (by kernel_rfl) (g26_0 call n kn kx b26_1 (k26_1 call n kn kx) (x26_1 call n kn kx) y0 y1 y2 y3 y4 y5 y6 y7 m)
  rw [l26_1] at h; exact h
def G26_2 (call : CL) (n : Nat) (kn : KN) (kx : KX) (Q26_0 : Y8) (y0 y1 y2 y3 y4 y5 y6 : AV) (m : Mem) : Rho :=
  vK (aIndexAddr m 1 y4 y6) m fun a0 m1 =>
  loadK none a0 m1 fun a2 m3 =>
  vK (aLen m3 1 y0) m3 fun a4 m5 =>
  binK .geq a2 a4 fun a6 =>
  gK a6 false (fun k => k y0 m5) m5 fun a7 m8 =>
  gK a6 false (fun k => k a2 m8) m8 fun a9 m10 =>
  gK a6 false (fun k => vK (aIndexAddr m10 1 a7 a9) m10 fun a11 m12 =>
  k a11 m12) m10 fun a13 m14 =>
  gK a6 false (fun k => loadK none a13 m14 fun a15 m16 =>
  k a15 m16) m14 fun a17 m18 =>
  gK a6 false (fun k => binK .lss a17 (.int .i64 0) fun a19 =>
  k a19 m18) m18 fun a20 m21 =>
  pickK a6 (some (.bool true)) (some a20) fun a22 =>
  gK a22 false (fun k => k y3 m21) m21 fun a23 m24 =>
  gK a22 false (fun k => k y0 m24) m24 fun a25 m26 =>
  gK a22 false (fun k => k a2 m26) m26 fun a27 m28 =>
  gK a22 false (fun k => vK (aIndexAddr m28 1 a25 a27) m28 fun a29 m30 =>
  k a29 m30) m28 fun a31 m32 =>
  gK a22 false (fun k => loadK none a31 m32 fun a33 m34 =>
  k a33 m34) m32 fun a35 m36 =>
  gK a22 false (fun k => lookupK ⟨[.i], false⟩ (.bool false) false a23 a35 m36 fun a37 =>
  k a37 m36) m36 fun a38 m39 =>
  pickK a22 (some (.bool true)) (some a38) fun a40 =>
  condK a40
  (callK call (.func 10 [] []) false [(.bool true)] m39 fun a41 m42 =>
  storeK 2 y2 a41 m42 fun a43 m44 =>
  kx .ret [(4, y2)] m44)
  (Q26_0 y0 y1 y2 y3 a2 y4 y5 y6 m39)
theorem g26_2 (call : CL) (n : Nat) (kn : KN) (kx : KX) (b26_0 : C) (b26_1 : C) (y0 y1 y2 y3 y4 y5 y6 : AV) (m : Mem) : evK call n (c26_2 b26_0 b26_1) [(1, y0), (2, y1), (4, y2), (5, y3), (17, y4), (18, y5), (19, y6)] m kn kx = G26_2 call n kn kx (fun x0 x1 x2 x3 x4 x5 x6 x7 m => evK call n b26_0 [(1, x0), (2, x1), (4, x2), (5, x3), (7, x4), (17, x5), (18, x6), (19, x7)] m (jn call n [1, 2, 4, 5, 17, 18, 19] b26_1 kn kx) (blkK 1 (jn call n [1, 2, 4, 5, 17, 18, 19] b26_1 kn kx) kx)) y0 y1 y2 y3 y4 y5 y6 m := by kernel_rfl
def k26_2 (call : CL) (n : Nat) (kn : KN) (kx : KX) : KN := kn
def x26_2 (call : CL) (n : Nat) (kn : KN) (kx : KX) : KX := kx
def S26_2 (call : CL) (n : Nat) (kn : KN) (kx : KX) (y0 y1 y2 y3 y4 y5 y6 : AV) (m : Mem) : Rho := G26_2 call n kn kx (S26_0 call n kn kx) y0 y1 y2 y3 y4 y5 y6 m
def d26_2 (call : CL) (n : Nat) (kn : KN) (kx : KX) (y0 y1 y2 y3 y4 y5 y6 : AV) (m : Mem) : Rho := evK call n b26_2 [(1, y0), (2, y1), (4, y2), (5, y3), (17, y4), (18, y5), (19, y6)] m (k26_2 call n kn kx) (x26_2 call n kn kx)
theorem l26_2 {call : CL} {n : Nat} {kn : KN} {kx : KX} : d26_2 call n kn kx = S26_2 call n kn kx := by
  funext y0 y1 y2 y3 y4 y5 y6 m
  have h : d26_2 call n kn kx y0 y1 y2 y3 y4 y5 y6 m = G26_2 call n kn kx (d26_0 call n kn kx) y0 y1 y2 y3 y4 y5 y6 m := Eq.mp (by kernel_rfl) (g26_2 call n kn kx b26_0 b26_1 y0 y1 y2 y3 y4 y5 y6 m)
  rw [l26_0] at h; exact h
def G26_3 (call : CL) (n : Nat) (kn : KN) (kx : KX) (Q26_2 : Y7) (y0 y1 y2 y3 y4 y5 y6 : AV) (m : Mem) : Rho :=
  binK .lss y6 y5 fun a0 =>
  condK a0
  (Q26_2 y0 y1 y2 y3 y4 y5 y6 m)
  (kx (.ext 0) [(1, y0), (2, y1), (4, y2), (5, y3), (17, y4), (18, y5), (19, y6), (20, a0)] m)
theorem g26_3 (call : CL) (n : Nat) (kn : KN) (kx : KX) (b26_2 : C) (y0 y1 y2 y3 y4 y5 y6 : AV) (m : Mem) : evK call n (c26_3 b26_2) [(1, y0), (2, y1), (4, y2), (5, y3), (17, y4), (18, y5), (19, y6)] m kn kx = G26_3 call n kn kx (fun x0 x1 x2 x3 x4 x5 x6 m => evK call n b26_2 [(1, x0), (2, x1), (4, x2), (5, x3), (17, x4), (18, x5), (19, x6)] m kn kx) y0 y1 y2 y3 y4 y5 y6 m := by kernel_rfl
def S26_3 (call : CL) (n : Nat) (kn : KN) (kx : KX) (y0 y1 y2 y3 y4 y5 y6 : AV) (m : Mem) : Rho := G26_3 call n kn kx (S26_2 call n kn kx) y0 y1 y2 y3 y4 y5 y6 m
def d26_3 (call : CL) (n : Nat) (kn : KN) (kx : KX) (y0 y1 y2 y3 y4 y5 y6 : AV) (m : Mem) : Rho := evK call n b26_3 [(1, y0), (2, y1), (4, y2), (5, y3), (17, y4), (18, y5), (19, y6)] m kn kx
theorem l26_3 {call : CL} {n : Nat} : d26_3 call n = S26_3 call n := by
  funext kn kx y0 y1 y2 y3 y4 y5 y6 m
  have h : d26_3 call n kn kx y0 y1 y2 y3 y4 y5 y6 m = G26_3 call n kn kx (d26_2 call n kn kx) y0 y1 y2 y3 y4 y5 y6 m := Eq.mp (by kernel_rfl) (g26_3 call n kn kx b26_2 y0 y1 y2 y3 y4 y5 y6 m)
  rw [l26_2] at h; exact h
def G26 (call : CL) (n : Nat) (m0 : Mem) (B26_3 : KN → KX → Y7) (Q26_9 : Y3) (y0 y1 : AV) (m : Mem) : Rho :=
  boxK y0 m fun a0 m1 =>
  newK [(.list .full 0 []), (.bool false)] m1 fun a2 m3 =>
  makeMapK m3 fun a4 m5 =>
  loadK (some 2) a0 m5 fun a6 m7 =>
  callK call (.func 17 [] []) false [a6] m7 fun a8 m9 =>
  vK (aLen m9 1 a8) m9 fun a10 m11 =>
  loopV [1, 2, 4, 5, 17, 18, 19] none (fun vs m kn kx => unc vs fun x0 vs => unc vs fun x1 vs => unc vs fun x2 vs => unc vs fun x3 vs => unc vs fun x4 vs => unc vs fun x5 vs => unc vs fun x6 vs => unz vs (B26_3 kn kx x0 x1 x2 x3 x4 x5 x6 m)) (blkK 0 (fun e m => keepK e [1, 2, 4] fun vs => unc vs fun x0 vs => unc vs fun x1 vs => unc vs fun x2 vs => unz vs (Q26_9 x0 x1 x2 m)) (endK f26 m0)) n [y1, a0, a2, a4, a8, a10, (.int .i64 0)] m11
theorem g26 (call : CL) (n : Nat) (m0 : Mem) (b26_3 : C) (b26_9 : C) (y0 y1 : AV) (m : Mem) : evK call n (c26 b26_3 b26_9) [(0, y0), (1, y1)] m (fun e m => endK f26 m0 .nrm e m) (endK f26 m0) = G26 call n m0 (fun kn kx x0 x1 x2 x3 x4 x5 x6 m => evK call n b26_3 [(1, x0), (2, x1), (4, x2), (5, x3), (17, x4), (18, x5), (19, x6)] m kn kx) (fun x0 x1 x2 m => evK call n b26_9 [(1, x0), (2, x1), (4, x2)] m (fun e m => endK f26 m0 .nrm e m) (endK f26 m0)) y0 y1 m := by kernel_rfl
def S26 (call : CL) (n : Nat) (m0 : Mem) (y0 y1 : AV) : Rho := G26 call n m0 (S26_3 call n) (S26_9 call n m0) y0 y1 { m0 with bad := none }
theorem s26 (call : CL) (n : Nat) (m0 : Mem) (y0 y1 : AV) : bodyK call n f26 [y0, y1] m0 = S26 call n m0 y0 y1 :=
  have h : bodyK call n f26 [y0, y1] m0 = G26 call n m0 (d26_3 call n) (d26_9 call n m0) y0 y1 { m0 with bad := none } := Eq.mp (by kernel_rfl) (g26 call n m0 b26_3 b26_9 y0 y1 { m0 with bad := none })
  by rw [l26_3, l26_9] at h; exact h
def F26 : SF := fun call n vs m0 => unc vs fun x0 vs => unc vs fun x1 vs => unz vs (S26 call n m0 x0 x1)
theorem F26_ok {orc : List AV → Mem → Option (AV × Mem)} : SOk 26 { f26 with orc := orc } F26 := by
  intro call n vs m0 ho r h0
  simp only [F26] at h0
  obtain ⟨y0, v0, rfl, h1⟩ := unc_some h0
  obtain ⟨y1, v1, rfl, h2⟩ := unc_some h1
  obtain ⟨rfl, hz⟩ := unz_some h2
  exact bodyK_le ho rfl r (Eq.mp (by kernel_rfl) ((s26 call n m0 y0 y1).trans hz))

-- resolvent/pos.join
def G44_2 (call : CL) (n : Nat) (m0 : Mem) (y0 y1 y2 : AV) (m : Mem) : Rho :=
  callK call (.func 51 [] []) false [y1, y2] m fun a0 m1 =>
  storeK 2 y0 a0 m1 fun a2 m3 =>
  loadK (some 2) y0 m3 fun a4 _ =>
  retK false false m0 [a4] m3
theorem g44_2 (call : CL) (n : Nat) (m0 : Mem) (y0 y1 y2 : AV) (m : Mem) : evK call n b44_2 [(6, y0), (7, y1), (8, y2)] m (fun e m => endK f44 m0 .nrm e m) (endK f44 m0) = G44_2 call n m0 y0 y1 y2 m := by kernel_rfl
def k44_2 (call : CL) (n : Nat) (m0 : Mem) : KN := (fun e m => endK f44 m0 .nrm e m)
def x44_2 (call : CL) (n : Nat) (m0 : Mem) : KX := (endK f44 m0)
def S44_2 (call : CL) (n : Nat) (m0 : Mem) (y0 y1 y2 : AV) (m : Mem) : Rho := G44_2 call n m0 y0 y1 y2 m
def d44_2 (call : CL) (n : Nat) (m0 : Mem) (y0 y1 y2 : AV) (m : Mem) : Rho := evK call n b44_2 [(6, y0), (7, y1), (8, y2)] m (k44_2 call n m0) (x44_2 call n m0)
theorem l44_2 {call : CL} {n : Nat} {m0 : Mem} : d44_2 call n m0 = S44_2 call n m0 := by
  funext y0 y1 y2 m
  have h : d44_2 call n m0 y0 y1 y2 m = G44_2 call n m0 y0 y1 y2 m := Eq.mp (by kernel_rfl) (g44_2 call n m0 y0 y1 y2 m)
  exact h
def G44_0 (call : CL) (n : Nat) (kn : KN) (kx : KX) (y0 y1 y2 y3 y4 y5 y6 : AV) (m : Mem) : Rho :=
  vK (aIndexAddr m 2 y4 y6) m fun a0 m1 =>
  loadK (some 2) a0 m1 fun a2 m3 =>
  newK [(.list .full 0 []), (.bool false)] m3 fun a4 m5 =>
  storeK 2 a4 a2 m5 fun a6 m7 =>
  loadK (some 2) a4 m7 fun a8 m9 =>
  callK call (.func 48 [] []) false [y2, a8] m9 fun a10 m11 =>
  callK call (.func 47 [] []) false [y2, y3, a10, y0] m11 fun a12 m13 =>
  binK .add y6 (.int .i64 1) fun a14 =>
  kn [(0, y0), (6, y1), (7, y2), (8, a12), (15, y4), (16, y5), (17, a14)] m13
theorem g44_0 (call : CL) (n : Nat) (kn : KN) (kx : KX) (y0 y1 y2 y3 y4 y5 y6 : AV) (m : Mem) : evK call n b44_0 [(0, y0), (6, y1), (7, y2), (8, y3), (15, y4), (16, y5), (17, y6)] m kn kx = G44_0 call n kn kx y0 y1 y2 y3 y4 y5 y6 m := by kernel_rfl
def k44_0 (call : CL) (n : Nat) (kn : KN) (kx : KX) : KN := kn
def x44_0 (call : CL) (n : Nat) (kn : KN) (kx : KX) : KX := kx
def S44_0 (call : CL) (n : Nat) (kn : KN) (kx : KX) (y0 y1 y2 y3 y4 y5 y6 : AV) (m : Mem) : Rho := G44_0 call n kn kx y0 y1 y2 y3 y4 y5 y6 m
def d44_0 (call : CL) (n : Nat) (kn : KN) (kx : KX) (y0 y1 y2 y3 y4 y5 y6 : AV) (m : Mem) : Rho := evK call n b44_0 [(0, y0), (6, y1), (7, y2), (8, y3), (15, y4), (16, y5), (17, y6)] m (k44_0 call n kn kx) (x44_0 call n kn kx)
theorem l44_0 {call : CL} {n : Nat} {kn : KN} {kx : KX} : d44_0 call n kn kx = S44_0 call n kn kx := by
  funext y0 y1 y2 y3 y4 y5 y6 m
  have h : d44_0 call n kn kx y0 y1 y2 y3 y4 y5 y6 m = G44_0 call n kn kx y0 y1 y2 y3 y4 y5 y6 m := Eq.mp (by kernel_rfl) (g44_0 call n kn kx y0 y1 y2 y3 y4 y5 y6 m)
  exact h
def G44_1 (call : CL) (n : Nat) (kn : KN) (kx : KX) (Q44_0 : Y7) (y0 y1 y2 y3 y4 y5 y6 : AV) (m : Mem) : Rho :=
  binK .lss y6 y5 fun a0 =>
  condK a0
  (Q44_0 y0 y1 y2 y3 y4 y5 y6 m)
  (kx (.ext 0) [(0, y0), (6, y1), (7, y2), (8, y3), (15, y4), (16, y5), (17, y6), (18, a0)] m)
theorem g44_1 (call : CL) (n : Nat) (kn : KN) (kx : KX) (b44_0 : C) (y0 y1 y2 y3 y4 y5 y6 : AV) (m : Mem) : evK call n (c44_1 b44_0) [(0, y0), (6, y1), (7, y2), (8, y3), (15, y4), (16, y5), (17, y6)] m kn kx = G44_1 call n kn kx (fun x0 x1 x2 x3 x4 x5 x6 m => evK call n b44_0 [(0, x0), (6, x1), (7, x2), (8, x3), (15, x4), (16, x5), (17, x6)] m kn kx) y0 y1 y2 y3 y4 y5 y6 m := by kernel_rfl
def S44_1 (call : CL) (n : Nat) (kn : KN) (kx : KX) (y0 y1 y2 y3 y4 y5 y6 : AV) (m : Mem) : Rho := G44_1 call n kn kx (S44_0 call n kn kx) y0 y1 y2 y3 y4 y5 y6 m
def d44_1 (call : CL) (n : Nat) (kn : KN) (kx : KX) (y0 y1 y2 y3 y4 y5 y6 : AV) (m : Mem) : Rho := evK call n b44_1 [(0, y0), (6, y1), (7, y2), (8, y3), (15, y4), (16, y5), (17, y6)] m kn kx
theorem l44_1 {call : CL} {n : Nat} : d44_1 call n = S44_1 call n := by
  funext kn kx y0 y1 y2 y3 y4 y5 y6 m
  have h : d44_1 call n kn kx y0 y1 y2 y3 y4 y5 y6 m = G44_1 call n kn kx (d44_0 call n kn kx) y0 y1 y2 y3 y4 y5 y6 m := Eq.mp (by kernel_rfl) (g44_1 call n kn kx b44_0 y0 y1 y2 y3 y4 y5 y6 m)
  rw [l44_0] at h; exact h
def G44 (call : CL) (n : Nat) (m0 : Mem) (B44_1 : KN → KX → Y7) (Q44_2 : Y3) (y0 y1 y2 : AV) (m : Mem) : Rho :=
  boxK y1 m fun a0 m1 =>
  newK [(.list .full 0 []), (.bool false)] m1 fun a2 m3 =>
  callK call (.func 46 [] []) false [] m3 fun a4 m5 =>
  loadK (some 2) a0 m5 fun a6 m7 =>
  callK call (.func 48 [] []) false [a4, a6] m7 fun a8 m9 =>
  vK (aLen m9 1 y2) m9 fun a10 m11 =>
  loopV [0, 6, 7, 8, 15, 16, 17] none (fun vs m kn kx => unc vs fun x0 vs => unc vs fun x1 vs => unc vs fun x2 vs => unc vs fun x3 vs => unc vs fun x4 vs => unc vs fun x5 vs => unc vs fun x6 vs => unz vs (B44_1 kn kx x0 x1 x2 x3 x4 x5 x6 m)) (blkK 0 (fun e m => keepK e [6, 7, 8] fun vs => unc vs fun x0 vs => unc vs fun x1 vs => unc vs fun x2 vs => unz vs (Q44_2 x0 x1 x2 m)) (endK f44 m0)) n [y0, a2, a4, a8, y2, a10, (.int .i64 0)] m11
theorem g44 (call : CL) (n : Nat) (m0 : Mem) (b44_1 : C) (b44_2 : C) (y0 y1 y2 : AV) (m : Mem) : evK call n (c44 b44_1 b44_2) [(0, y0), (1, y1), (2, y2)] m (fun e m => endK f44 m0 .nrm e m) (endK f44 m0) = G44 call n m0 (fun kn kx x0 x1 x2 x3 x4 x5 x6 m => evK call n b44_1 [(0, x0), (6, x1), (7, x2), (8, x3), (15, x4), (16, x5), (17, x6)] m kn kx) (fun x0 x1 x2 m => evK call n b44_2 [(6, x0), (7, x1), (8, x2)] m (fun e m => endK f44 m0 .nrm e m) (endK f44 m0)) y0 y1 y2 m := by kernel_rfl
def S44 (call : CL) (n : Nat) (m0 : Mem) (y0 y1 y2 : AV) : Rho := G44 call n m0 (S44_1 call n) (S44_2 call n m0) y0 y1 y2 { m0 with bad := none }
theorem s44 (call : CL) (n : Nat) (m0 : Mem) (y0 y1 y2 : AV) : bodyK call n f44 [y0, y1, y2] m0 = S44 call n m0 y0 y1 y2 :=
  have h : bodyK call n f44 [y0, y1, y2] m0 = G44 call n m0 (d44_1 call n) (d44_2 call n m0) y0 y1 y2 { m0 with bad := none } := Eq.mp (by kernel_rfl) (g44 call n m0 b44_1 b44_2 y0 y1 y2 { m0 with bad := none })
  by rw [l44_1, l44_2] at h; exact h
def F44 : SF := fun call n vs m0 => unc vs fun x0 vs => unc vs fun x1 vs => unc vs fun x2 vs => unz vs (S44 call n m0 x0 x1 x2)
theorem F44_ok {orc : List AV → Mem → Option (AV × Mem)} : SOk 44 { f44 with orc := orc } F44 := by
  intro call n vs m0 ho r h0
  simp only [F44] at h0
  obtain ⟨y0, v0, rfl, h1⟩ := unc_some h0
  obtain ⟨y1, v1, rfl, h2⟩ := unc_some h1
  obtain ⟨y2, v2, rfl, h3⟩ := unc_some h2
  obtain ⟨rfl, hz⟩ := unz_some h3
  exact bodyK_le ho rfl r (Eq.mp (by kernel_rfl) ((s44 call n m0 y0 y1 y2).trans hz))

-- resolvent/pos.and
def G45_0 (call : CL) (n : Nat) (m0 : Mem) (m : Mem) : Rho :=
  retK false false m0 [(.int .i64 0), (.bool false)] m
theorem g45_0 (call : CL) (n : Nat) (m0 : Mem) (m : Mem) : evK call n b45_0 [] m (fun e m => endK f45 m0 .nrm e m) (endK f45 m0) = G45_0 call n m0 m := by kernel_rfl
def k45_0 (call : CL) (n : Nat) (m0 : Mem) : KN := (fun e m => endK f45 m0 .nrm e m)
def x45_0 (call : CL) (n : Nat) (m0 : Mem) : KX := (endK f45 m0)
def S45_0 (call : CL) (n : Nat) (m0 : Mem) (m : Mem) : Rho := G45_0 call n m0 m
def d45_0 (call : CL) (n : Nat) (m0 : Mem) (m : Mem) : Rho := evK call n b45_0 [] m (k45_0 call n m0) (x45_0 call n m0)
theorem l45_0 {call : CL} {n : Nat} {m0 : Mem} : d45_0 call n m0 = S45_0 call n m0 := by
  funext m
  have h : d45_0 call n m0 m = G45_0 call n m0 m := Eq.mp (by kernel_rfl) (g45_0 call n m0 m)
  exact h
def G45 (call : CL) (n : Nat) (m0 : Mem) (Q45_0 : Y0) (y0 y1 : AV) (m : Mem) : Rho :=
  binK .eql y0 (.int .i64 0) fun a0 =>
  gK a0 false (fun k => k y1 m) m fun a1 m2 =>
  gK a0 false (fun k => binK .eql a1 (.int .i64 0) fun a3 =>
  k a3 m2) m2 fun a4 m5 =>
  pickK a0 (some (.bool true)) (some a4) fun a6 =>
  condK a6
  (retK false false m0 [(.int .i64 0), (.bool true)] m5)
  (binK .eql y0 (.int .i64 1) fun a7 =>
  condK a7
  (retK false false m0 [y1, (.bool true)] m5)
  (binK .eql y1 (.int .i64 1) fun a8 =>
  gK a8 false (fun k => k y0 m5) m5 fun a9 m10 =>
  gK a8 false (fun k => k y1 m10) m10 fun a11 m12 =>
  gK a8 false (fun k => binK .eql a9 a11 fun a13 =>
  k a13 m12) m12 fun a14 m15 =>
  pickK a8 (some (.bool true)) (some a14) fun a16 =>
  condK a16
  (retK false false m0 [y0, (.bool true)] m15)
  (Q45_0 m15)))
theorem g45 (call : CL) (n : Nat) (m0 : Mem) (b45_0 : C) (y0 y1 : AV) (m : Mem) : evK call n (c45 b45_0) [(0, y0), (1, y1)] m (fun e m => endK f45 m0 .nrm e m) (endK f45 m0) = G45 call n m0 (fun m => evK call n b45_0 [] m (fun e m => endK f45 m0 .nrm e m) (endK f45 m0)) y0 y1 m := by kernel_rfl
def S45 (call : CL) (n : Nat) (m0 : Mem) (y0 y1 : AV) : Rho := G45 call n m0 (S45_0 call n m0) y0 y1 { m0 with bad := none }
theorem s45 (call : CL) (n : Nat) (m0 : Mem) (y0 y1 : AV) : bodyK call n f45 [y0, y1] m0 = S45 call n m0 y0 y1 :=
  have h : bodyK call n f45 [y0, y1] m0 = G45 call n m0 (d45_0 call n m0) y0 y1 { m0 with bad := none } := Eq.mp (by kernel_rfl) (g45 call n m0 b45_0 y0 y1 { m0 with bad := none })
  by rw [l45_0] at h; exact h
def F45 : SF := fun call n vs m0 => unc vs fun x0 vs => unc vs fun x1 vs => unz vs (S45 call n m0 x0 x1)
theorem F45_ok {orc : List AV → Mem → Option (AV × Mem)} : SOk 45 { f45 with orc := orc } F45 := by
  intro call n vs m0 ho r h0
  simp only [F45] at h0
  obtain ⟨y0, v0, rfl, h1⟩ := unc_some h0
  obtain ⟨y1, v1, rfl, h2⟩ := unc_some h1
  obtain ⟨rfl, hz⟩ := unz_some h2
  exact bodyK_le ho rfl r (Eq.mp (by kernel_rfl) ((s45 call n m0 y0 y1).trans hz))

-- resolvent/pos.open
def G46 (call : CL) (n : Nat) (m0 : Mem) (m : Mem) : Rho :=
  makeMapK m fun a0 m1 =>
  buildTK [(.list .full 0 []), .nilmap] 0 3 [(1, 1, AV.untag1 a0)] m1 fun a2 m3 =>
  boxK a2 m3 fun a4 m5 =>
  retK false false m0 [a4] m5
theorem g46 (call : CL) (n : Nat) (m0 : Mem) (m : Mem) : evK call n b46 [] m (fun e m => endK f46 m0 .nrm e m) (endK f46 m0) = G46 call n m0 m := by kernel_rfl
def S46 (call : CL) (n : Nat) (m0 : Mem) : Rho := G46 call n m0 { m0 with bad := none }
theorem s46 (call : CL) (n : Nat) (m0 : Mem) : bodyK call n f46 [] m0 = S46 call n m0 :=
  have h : bodyK call n f46 [] m0 = G46 call n m0 { m0 with bad := none } := Eq.mp (by kernel_rfl) (g46 call n m0 { m0 with bad := none })
  h
def F46 : SF := fun call n vs m0 => unz vs (S46 call n m0)
theorem F46_ok {orc : List AV → Mem → Option (AV × Mem)} : SOk 46 { f46 with orc := orc } F46 := by
  intro call n vs m0 ho r h0
  simp only [F46] at h0
  obtain ⟨rfl, hz⟩ := unz_some h0
  exact bodyK_le ho rfl r (Eq.mp (by kernel_rfl) ((s46 call n m0).trans hz))

-- (*resolvent/pos.table).both
def G47 (call : CL) (n : Nat) (m0 : Mem) (y0 y1 y2 y3 : AV) (m : Mem) : Rho :=
  boxK y0 m fun a0 m1 =>
  boxK y3 m1 fun a2 m3 =>
  makeMapK m3 fun a4 m5 =>
  newK [.nilmap] m5 fun a6 m7 =>
  storeK 1 a6 a4 m7 fun a8 m9 =>
  newK [.nilfunc] m9 fun a10 m11 =>
  storeK 1 a10 (.func 75 [] [a2, a6, a0, a10]) m11 fun a12 m13 =>
  loadK none a10 m13 fun a14 m15 =>
  callK call a14 false [y1, y2] m15 fun a16 m17 =>
  retK false false m0 [a16] m17
theorem g47 (call : CL) (n : Nat) (m0 : Mem) (y0 y1 y2 y3 : AV) (m : Mem) : evK call n b47 [(0, y0), (1, y1), (2, y2), (3, y3)] m (fun e m => endK f47 m0 .nrm e m) (endK f47 m0) = G47 call n m0 y0 y1 y2 y3 m := by kernel_rfl
def S47 (call : CL) (n : Nat) (m0 : Mem) (y0 y1 y2 y3 : AV) : Rho := G47 call n m0 y0 y1 y2 y3 { m0 with bad := none }
theorem s47 (call : CL) (n : Nat) (m0 : Mem) (y0 y1 y2 y3 : AV) : bodyK call n f47 [y0, y1, y2, y3] m0 = S47 call n m0 y0 y1 y2 y3 :=
  have h : bodyK call n f47 [y0, y1, y2, y3] m0 = G47 call n m0 y0 y1 y2 y3 { m0 with bad := none } := Eq.mp (by kernel_rfl) (g47 call n m0 y0 y1 y2 y3 { m0 with bad := none })
  h
def F47 : SF := fun call n vs m0 => unc vs fun x0 vs => unc vs fun x1 vs => unc vs fun x2 vs => unc vs fun x3 vs => unz vs (S47 call n m0 x0 x1 x2 x3)
theorem F47_ok {orc : List AV → Mem → Option (AV × Mem)} : SOk 47 { f47 with orc := orc } F47 := by
  intro call n vs m0 ho r h0
  simp only [F47] at h0
  obtain ⟨y0, v0, rfl, h1⟩ := unc_some h0
  obtain ⟨y1, v1, rfl, h2⟩ := unc_some h1
  obtain ⟨y2, v2, rfl, h3⟩ := unc_some h2
  obtain ⟨y3, v3, rfl, h4⟩ := unc_some h3
  obtain ⟨rfl, hz⟩ := unz_some h4
  exact bodyK_le ho rfl r (Eq.mp (by kernel_rfl) ((s47 call n m0 y0 y1 y2 y3).trans hz))

-- (*resolvent/pos.table).put
def G48_3 (call : CL) (n : Nat) (m0 : Mem) (y0 : AV) (m : Mem) : Rho :=
  vK (aLen m 1 y0) m fun a0 m1 =>
  binK .sub a0 (.int .i64 1) fun a2 =>
  vK (aIndexAddr m1 1 y0 a2) m1 fun a3 m4 =>
  loadK none a3 m4 fun a5 m6 =>
  retK false false m0 [a5] m6
theorem g48_3 (call : CL) (n : Nat) (m0 : Mem) (y0 : AV) (m : Mem) : evK call n b48_3 [(5, y0)] m (fun e m => endK f48 m0 .nrm e m) (endK f48 m0) = G48_3 call n m0 y0 m := by kernel_rfl
def k48_3 (call : CL) (n : Nat) (m0 : Mem) : KN := (fun e m => endK f48 m0 .nrm e m)
def x48_3 (call : CL) (n : Nat) (m0 : Mem) : KX := (endK f48 m0)
def S48_3 (call : CL) (n : Nat) (m0 : Mem) (y0 : AV) (m : Mem) : Rho := G48_3 call n m0 y0 m
def d48_3 (call : CL) (n : Nat) (m0 : Mem) (y0 : AV) (m : Mem) : Rho := evK call n b48_3 [(5, y0)] m (k48_3 call n m0) (x48_3 call n m0)
theorem l48_3 {call : CL} {n : Nat} {m0 : Mem} : d48_3 call n m0 = S48_3 call n m0 := by
  funext y0 m
  have h : d48_3 call n m0 y0 m = G48_3 call n m0 y0 m := Eq.mp (by kernel_rfl) (g48_3 call n m0 y0 m)
  exact h
def G48_4 (call : CL) (n : Nat) (m0 : Mem) (Q48_3 : Y1) (y0 y1 : AV) (m : Mem) : Rho :=
  vK (aFieldAddr 0 1 y0) m fun a0 m1 =>
  loadK none a0 m1 fun a2 m3 =>
  vK (aLen m3 1 a2) m3 fun a4 m5 =>
  binK .eql a4 (.int .i64 0) fun a6 =>
  condK a6
  (vK (aFieldAddr 1 1 y0) m5 fun a7 m8 =>
  loadK none a7 m8 fun a9 m10 =>
  callK call (.func 78 [] []) false [a9] m10 fun a11 m12 =>
  retK false false m0 [a11] m12)
  (Q48_3 y1 m5)
theorem g48_4 (call : CL) (n : Nat) (m0 : Mem) (b48_3 : C) (y0 y1 : AV) (m : Mem) : evK call n (c48_4 b48_3) [(3, y0), (5, y1)] m (fun e m => endK f48 m0 .nrm e m) (endK f48 m0) = G48_4 call n m0 (fun x0 m => evK call n b48_3 [(5, x0)] m (fun e m => endK f48 m0 .nrm e m) (endK f48 m0)) y0 y1 m := by kernel_rfl
def k48_4 (call : CL) (n : Nat) (m0 : Mem) : KN := (fun e m => endK f48 m0 .nrm e m)
def x48_4 (call : CL) (n : Nat) (m0 : Mem) : KX := (endK f48 m0)
def S48_4 (call : CL) (n : Nat) (m0 : Mem) (y0 y1 : AV) (m : Mem) : Rho := G48_4 call n m0 (S48_3 call n m0) y0 y1 m
def d48_4 (call : CL) (n : Nat) (m0 : Mem) (y0 y1 : AV) (m : Mem) : Rho := evK call n b48_4 [(3, y0), (5, y1)] m (k48_4 call n m0) (x48_4 call n m0)
theorem l48_4 {call : CL} {n : Nat} {m0 : Mem} : d48_4 call n m0 = S48_4 call n m0 := by
  funext y0 y1 m
  have h : d48_4 call n m0 y0 y1 m = G48_4 call n m0 (d48_3 call n m0) y0 y1 m := Eq.mp (by kernel_rfl) (g48_4 call n m0 b48_3 y0 y1 m)
  rw [l48_3] at h; exact h
def G48_1 (call : CL) (n : Nat) (kn : KN) (kx : KX) (y0 y1 y2 y3 y4 y5 : AV) (m : Mem) : Rho :=
  vK (aIndexAddr m 3 y3 y5) m fun a0 m1 =>
  loadK (some 3) a0 m1 fun a2 m3 =>
  newK [(.int .i64 0), (.int .i64 0), (.int .i64 0)] m3 fun a4 m5 =>
  storeK 3 a4 a2 m5 fun a6 m7 =>
  vK (aFieldAddr 0 1 a4) m7 fun a8 m9 =>
  loadK none a8 m9 fun a10 m11 =>
  vK (aFieldAddr 1 1 a4) m11 fun a12 m13 =>
  loadK none a12 m13 fun a14 m15 =>
  vK (aIndexAddr m15 1 y2 a14) m15 fun a16 m17 =>
  loadK none a16 m17 fun a18 m19 =>
  vK (aFieldAddr 2 1 a4) m19 fun a20 m21 =>
  loadK none a20 m21 fun a22 m23 =>
  vK (aIndexAddr m23 1 y2 a22) m23 fun a24 m25 =>
  loadK none a24 m25 fun a26 m27 =>
  buildK [(.int .i64 0), (.int .i64 0), (.int .i64 0)] [(0, 1, AV.untag1 a10), (1, 1, AV.untag1 a18), (2, 1, AV.untag1 a26)] fun a28 =>
  callK call (.func 50 [] []) false [y0, a28] m27 fun a29 m30 =>
  buildSliceK 1 [(.int .i64 0)] 1 false [(0 * 1, 1, AV.untag a29)] m30 fun a31 m32 =>
  appendK 1 8 0 y2 a31 m32 fun a33 m34 =>
  cond (stayK [m7, m30, m34] []) (binK .add y5 (.int .i64 1) fun a35 =>
  kn [(0, y0), (3, y1), (5, a33), (10, y3), (11, y4), (12, a35)] m34) none
theorem g48_1 (call : CL) (n : Nat) (kn : KN) (kx : KX) (y0 y1 y2 y3 y4 y5 : AV) (m : Mem) : evK call n b48_1 [(0, y0), (3, y1), (5, y2), (10, y3), (11, y4), (12, y5)] m kn kx = G48_1 call n kn kx y0 y1 y2 y3 y4 y5 m := by kernel_rfl
def k48_1 (call : CL) (n : Nat) (kn : KN) (kx : KX) : KN := kn
def x48_1 (call : CL) (n : Nat) (kn : KN) (kx : KX) : KX := kx
def S48_1 (call : CL) (n : Nat) (kn : KN) (kx : KX) (y0 y1 y2 y3 y4 y5 : AV) (m : Mem) : Rho := G48_1 call n kn kx y0 y1 y2 y3 y4 y5 m
def d48_1 (call : CL) (n : Nat) (kn : KN) (kx : KX) (y0 y1 y2 y3 y4 y5 : AV) (m : Mem) : Rho := evK call n b48_1 [(0, y0), (3, y1), (5, y2), (10, y3), (11, y4), (12, y5)] m (k48_1 call n kn kx) (x48_1 call n kn kx)
theorem l48_1 {call : CL} {n : Nat} {kn : KN} {kx : KX} : d48_1 call n kn kx = S48_1 call n kn kx := by
  funext y0 y1 y2 y3 y4 y5 m
  have h : d48_1 call n kn kx y0 y1 y2 y3 y4 y5 m = G48_1 call n kn kx y0 y1 y2 y3 y4 y5 m := Eq.mp (by kernel_rfl) (g48_1 call n kn kx y0 y1 y2 y3 y4 y5 m)
  exact h
def G48_2 (call : CL) (n : Nat) (kn : KN) (kx : KX) (Q48_1 : Y6) (y0 y1 y2 y3 y4 y5 : AV) (m : Mem) : Rho :=
  binK .lss y5 y4 fun a0 =>
  condK a0
  (Q48_1 y0 y1 y2 y3 y4 y5 m)
  (kx (.ext 0) [(0, y0), (3, y1), (5, y2), (10, y3), (11, y4), (12, y5), (13, a0)] m)
theorem g48_2 (call : CL) (n : Nat) (kn : KN) (kx : KX) (b48_1 : C) (y0 y1 y2 y3 y4 y5 : AV) (m : Mem) : evK call n (c48_2 b48_1) [(0, y0), (3, y1), (5, y2), (10, y3), (11, y4), (12, y5)] m kn kx = G48_2 call n kn kx (fun x0 x1 x2 x3 x4 x5 m => evK call n b48_1 [(0, x0), (3, x1), (5, x2), (10, x3), (11, x4), (12, x5)] m kn kx) y0 y1 y2 y3 y4 y5 m := by kernel_rfl
def S48_2 (call : CL) (n : Nat) (kn : KN) (kx : KX) (y0 y1 y2 y3 y4 y5 : AV) (m : Mem) : Rho := G48_2 call n kn kx (S48_1 call n kn kx) y0 y1 y2 y3 y4 y5 m
def d48_2 (call : CL) (n : Nat) (kn : KN) (kx : KX) (y0 y1 y2 y3 y4 y5 : AV) (m : Mem) : Rho := evK call n b48_2 [(0, y0), (3, y1), (5, y2), (10, y3), (11, y4), (12, y5)] m kn kx
theorem l48_2 {call : CL} {n : Nat} : d48_2 call n = S48_2 call n := by
  funext kn kx y0 y1 y2 y3 y4 y5 m
  have h : d48_2 call n kn kx y0 y1 y2 y3 y4 y5 m = G48_2 call n kn kx (d48_1 call n kn kx) y0 y1 y2 y3 y4 y5 m := Eq.mp (by kernel_rfl) (g48_2 call n kn kx b48_1 y0 y1 y2 y3 y4 y5 m)
  rw [l48_1] at h; exact h
def G48 (call : CL) (n : Nat) (m0 : Mem) (B48_2 : KN → KX → Y6) (Q48_4 : Y2) (y0 y1 : AV) (m : Mem) : Rho :=
  boxK y1 m fun a0 m1 =>
  buildSliceK 1 [(.int .i64 0)] 2 false [(0 * 1, 1, AV.untag (.int .i64 0)), (1 * 1, 1, AV.untag (.int .i64 1))] m1 fun a2 m3 =>
  vK (aFieldAddr 0 1 a0) m3 fun a4 m5 =>
  loadK none a4 m5 fun a6 m7 =>
  vK (aLen m7 1 a6) m7 fun a8 m9 =>
  loopV [0, 3, 5, 10, 11, 12] none (fun vs m kn kx => unc vs fun x0 vs => unc vs fun x1 vs => unc vs fun x2 vs => unc vs fun x3 vs => unc vs fun x4 vs => unc vs fun x5 vs => unz vs (B48_2 kn kx x0 x1 x2 x3 x4 x5 m)) (blkK 0 (fun e m => keepK e [3, 5] fun vs => unc vs fun x0 vs => unc vs fun x1 vs => unz vs (Q48_4 x0 x1 m)) (endK f48 m0)) n [y0, a0, a2, a6, a8, (.int .i64 0)] m9
theorem g48 (call : CL) (n : Nat) (m0 : Mem) (b48_2 : C) (b48_4 : C) (y0 y1 : AV) (m : Mem) : evK call n (c48 b48_2 b48_4) [(0, y0), (1, y1)] m (fun e m => endK f48 m0 .nrm e m) (endK f48 m0) = G48 call n m0 (fun kn kx x0 x1 x2 x3 x4 x5 m => evK call n b48_2 [(0, x0), (3, x1), (5, x2), (10, x3), (11, x4), (12, x5)] m kn kx) (fun x0 x1 m => evK call n b48_4 [(3, x0), (5, x1)] m (fun e m => endK f48 m0 .nrm e m) (endK f48 m0)) y0 y1 m := by kernel_rfl
def S48 (call : CL) (n : Nat) (m0 : Mem) (y0 y1 : AV) : Rho := G48 call n m0 (S48_2 call n) (S48_4 call n m0) y0 y1 { m0 with bad := none }
theorem s48 (call : CL) (n : Nat) (m0 : Mem) (y0 y1 : AV) : bodyK call n f48 [y0, y1] m0 = S48 call n m0 y0 y1 :=
  have h : bodyK call n f48 [y0, y1] m0 = G48 call n m0 (d48_2 call n) (d48_4 call n m0) y0 y1 { m0 with bad := none } := Eq.mp (by kernel_rfl) (g48 call n m0 b48_2 b48_4 y0 y1 { m0 with bad := none })
  by rw [l48_2, l48_4] at h; exact h
def F48 : SF := fun call n vs m0 => unc vs fun x0 vs => unc vs fun x1 vs => unz vs (S48 call n m0 x0 x1)
theorem F48_ok {orc : List AV → Mem → Option (AV × Mem)} : SOk 48 { f48 with orc := orc } F48 := by
  intro call n vs m0 ho r h0
  simp only [F48] at h0
  obtain ⟨y0, v0, rfl, h1⟩ := unc_some h0
  obtain ⟨y1, v1, rfl, h2⟩ := unc_some h1
  obtain ⟨rfl, hz⟩ := unz_some h2
  exact bodyK_le ho rfl r (Eq.mp (by kernel_rfl) ((s48 call n m0 y0 y1).trans hz))

-- slices.Contains[[]int,int]
def G49 (call : CL) (n : Nat) (m0 : Mem) (y0 y1 : AV) (m : Mem) : Rho :=
  callK call (.func 79 [] []) false [y0, y1] m fun a0 m1 =>
  binK .geq a0 (.int .i64 0) fun a2 =>
  retK false false m0 [a2] m1
theorem g49 (call : CL) (n : Nat) (m0 : Mem) (y0 y1 : AV) (m : Mem) : evK call n b49 [(0, y0), (1, y1)] m (fun e m => endK f49 m0 .nrm e m) (endK f49 m0) = G49 call n m0 y0 y1 m := by kernel_rfl
def S49 (call : CL) (n : Nat) (m0 : Mem) (y0 y1 : AV) : Rho := G49 call n m0 y0 y1 { m0 with bad := none }
theorem s49 (call : CL) (n : Nat) (m0 : Mem) (y0 y1 : AV) : bodyK call n f49 [y0, y1] m0 = S49 call n m0 y0 y1 :=
  have h : bodyK call n f49 [y0, y1] m0 = G49 call n m0 y0 y1 { m0 with bad := none } := Eq.mp (by kernel_rfl) (g49 call n m0 y0 y1 { m0 with bad := none })
  h
def F49 : SF := fun call n vs m0 => unc vs fun x0 vs => unc vs fun x1 vs => unz vs (S49 call n m0 x0 x1)
theorem F49_ok {orc : List AV → Mem → Option (AV × Mem)} : SOk 49 { f49 with orc := orc } F49 := by
  intro call n vs m0 ho r h0
  simp only [F49] at h0
  obtain ⟨y0, v0, rfl, h1⟩ := unc_some h0
  obtain ⟨y1, v1, rfl, h2⟩ := unc_some h1
  obtain ⟨rfl, hz⟩ := unz_some h2
  exact bodyK_le ho rfl r (Eq.mp (by kernel_rfl) ((s49 call n m0 y0 y1).trans hz))

-- (*resolvent/pos.table).make
def G50_4 (call : CL) (n : Nat) (m0 : Mem) (y0 y1 : AV) (m : Mem) : Rho :=
  nilK y0 fun a0 =>
  vK (aFieldAddr 1 1 a0) m fun a1 m2 =>
  loadK none a1 m2 fun a3 m4 =>
  loadK (some 3) y1 m4 fun a5 m6 =>
  lookupK ⟨[.i, .i, .i], true⟩ (.int .i64 0) false a3 a5 m6 fun a7 =>
  retK false false m0 [a7] m6
theorem g50_4 (call : CL) (n : Nat) (m0 : Mem) (y0 y1 : AV) (m : Mem) : evK call n b50_4 [(0, y0), (3, y1)] m (fun e m => endK f50 m0 .nrm e m) (endK f50 m0) = G50_4 call n m0 y0 y1 m := by kernel_rfl
def k50_4 (call : CL) (n : Nat) (m0 : Mem) : KN := (fun e m => endK f50 m0 .nrm e m)
def x50_4 (call : CL) (n : Nat) (m0 : Mem) : KX := (endK f50 m0)
def S50_4 (call : CL) (n : Nat) (m0 : Mem) (y0 y1 : AV) (m : Mem) : Rho := G50_4 call n m0 y0 y1 m
def d50_4 (call : CL) (n : Nat) (m0 : Mem) (y0 y1 : AV) (m : Mem) : Rho := evK call n b50_4 [(0, y0), (3, y1)] m (k50_4 call n m0) (x50_4 call n m0)
theorem l50_4 {call : CL} {n : Nat} {m0 : Mem} : d50_4 call n m0 = S50_4 call n m0 := by
  funext y0 y1 m
  have h : d50_4 call n m0 y0 y1 m = G50_4 call n m0 y0 y1 m := Eq.mp (by kernel_rfl) (g50_4 call n m0 y0 y1 m)
  exact h
def G50_5 (call : CL) (n : Nat) (m0 : Mem) (Q50_4 : Y2) (y0 y1 : AV) (m : Mem) : Rho :=
  nilK y0 fun a0 =>
  vK (aFieldAddr 1 1 a0) m fun a1 m2 =>
  loadK none a1 m2 fun a3 m4 =>
  loadK (some 3) y1 m4 fun a5 m6 =>
  lookupK ⟨[.i, .i, .i], true⟩ (.int .i64 0) true a3 a5 m6 fun a7 =>
  extractK a7 0 fun a8 =>
  extractK a7 1 fun a9 =>
  unK .not a9 fun a10 =>
  condK a10
  (nilK y0 fun a11 =>
  vK (aFieldAddr 0 1 a11) m6 fun a12 m13 =>
  loadK none a12 m13 fun a14 m15 =>
  loadK (some 3) y1 m15 fun a16 m17 =>
  buildSliceK 3 [(.int .i64 0), (.int .i64 0), (.int .i64 0)] 1 false [(0 * 3, 3, AV.untag a16)] m17 fun a18 m19 =>
  appendK 3 24 0 a14 a18 m19 fun a20 m21 =>
  nilK y0 fun a22 =>
  vK (aFieldAddr 0 1 a22) m21 fun a23 m24 =>
  storeK 1 a23 a20 m24 fun a25 m26 =>
  cond (stayK [m6, m21, m26] []) (nilK y0 fun a27 =>
  vK (aFieldAddr 1 1 a27) m26 fun a28 m29 =>
  loadK none a28 m29 fun a30 m31 =>
  loadK (some 3) y1 m31 fun a32 m33 =>
  nilK y0 fun a34 =>
  vK (aFieldAddr 0 1 a34) m33 fun a35 m36 =>
  loadK none a35 m36 fun a37 m38 =>
  vK (aLen m38 1 a37) m38 fun a39 m40 =>
  binK .add a39 (.int .i64 1) fun a41 =>
  mapUpdateK ⟨[.i, .i, .i], true⟩ a30 a32 a41 m40 fun a42 m43 =>
  cond (stayK [m26, m43] []) (Q50_4 y0 y1 m43) none) none)
  (Q50_4 y0 y1 m6)
theorem g50_5 (call : CL) (n : Nat) (m0 : Mem) (b50_4 : C) (y0 y1 : AV) (m : Mem) : evK call n (c50_5 b50_4) [(0, y0), (3, y1)] m (fun e m => endK f50 m0 .nrm e m) (endK f50 m0) = G50_5 call n m0 (fun x0 x1 m => evK call n b50_4 [(0, x0), (3, x1)] m (fun e m => endK f50 m0 .nrm e m) (endK f50 m0)) y0 y1 m := by kernel_rfl
def k50_5 (call : CL) (n : Nat) (m0 : Mem) : KN := (fun e m => endK f50 m0 .nrm e m)
def x50_5 (call : CL) (n : Nat) (m0 : Mem) : KX := (endK f50 m0)
def S50_5 (call : CL) (n : Nat) (m0 : Mem) (y0 y1 : AV) (m : Mem) : Rho := G50_5 call n m0 (S50_4 call n m0) y0 y1 m
def d50_5 (call : CL) (n : Nat) (m0 : Mem) (y0 y1 : AV) (m : Mem) : Rho := evK call n b50_5 [(0, y0), (3, y1)] m (k50_5 call n m0) (x50_5 call n m0)
theorem l50_5 {call : CL} {n : Nat} {m0 : Mem} : d50_5 call n m0 = S50_5 call n m0 := by
  funext y0 y1 m
  have h : d50_5 call n m0 y0 y1 m = G50_5 call n m0 (d50_4 call n m0) y0 y1 m := Eq.mp (by kernel_rfl) (g50_5 call n m0 b50_4 y0 y1 m)
  rw [l50_4] at h; exact h
def G50 (call : CL) (n : Nat) (m0 : Mem) (Q50_5 : Y2) (y0 y1 : AV) (m : Mem) : Rho :=
  boxK y1 m fun a0 m1 =>
  vK (aFieldAddr 1 1 a0) m1 fun a2 m3 =>
  loadK none a2 m3 fun a4 m5 =>
  vK (aFieldAddr 2 1 a0) m5 fun a6 m7 =>
  loadK none a6 m7 fun a8 m9 =>
  binK .eql a4 a8 fun a10 =>
  condK a10
  (vK (aFieldAddr 1 1 a0) m9 fun a11 m12 =>
  loadK none a11 m12 fun a13 m14 =>
  retK false false m0 [a13] m14)
  (Q50_5 y0 a0 m9)
theorem g50 (call : CL) (n : Nat) (m0 : Mem) (b50_5 : C) (y0 y1 : AV) (m : Mem) : evK call n (c50 b50_5) [(0, y0), (1, y1)] m (fun e m => endK f50 m0 .nrm e m) (endK f50 m0) = G50 call n m0 (fun x0 x1 m => evK call n b50_5 [(0, x0), (3, x1)] m (fun e m => endK f50 m0 .nrm e m) (endK f50 m0)) y0 y1 m := by kernel_rfl
def S50 (call : CL) (n : Nat) (m0 : Mem) (y0 y1 : AV) : Rho := G50 call n m0 (S50_5 call n m0) y0 y1 { m0 with bad := none }
theorem s50 (call : CL) (n : Nat) (m0 : Mem) (y0 y1 : AV) : bodyK call n f50 [y0, y1] m0 = S50 call n m0 y0 y1 :=
  have h : bodyK call n f50 [y0, y1] m0 = G50 call n m0 (d50_5 call n m0) y0 y1 { m0 with bad := none } := Eq.mp (by kernel_rfl) (g50 call n m0 b50_5 y0 y1 { m0 with bad := none })
  by rw [l50_5] at h; exact h
def F50 : SF := fun call n vs m0 => unc vs fun x0 vs => unc vs fun x1 vs => unz vs (S50 call n m0 x0 x1)
theorem F50_ok {orc : List AV → Mem → Option (AV × Mem)} : SOk 50 { f50 with orc := orc } F50 := by
  intro call n vs m0 ho r h0
  simp only [F50] at h0
  obtain ⟨y0, v0, rfl, h1⟩ := unc_some h0
  obtain ⟨y1, v1, rfl, h2⟩ := unc_some h1
  obtain ⟨rfl, hz⟩ := unz_some h2
  exact bodyK_le ho rfl r (Eq.mp (by kernel_rfl) ((s50 call n m0 y0 y1).trans hz))

-- (*resolvent/pos.table).take
def G51_0 (call : CL) (n : Nat) (m0 : Mem) (y0 y1 : AV) (m : Mem) : Rho :=
  loadK (some 2) y1 m fun a0 m1 =>
  storeK 2 y0 a0 m1 fun a2 m3 =>
  loadK (some 2) y0 m3 fun a4 _ =>
  retK false false m0 [a4] m3
theorem g51_0 (call : CL) (n : Nat) (m0 : Mem) (y0 y1 : AV) (m : Mem) : evK call n b51_0 [(4, y0), (5, y1)] m (fun e m => endK f51 m0 .nrm e m) (endK f51 m0) = G51_0 call n m0 y0 y1 m := by kernel_rfl
def k51_0 (call : CL) (n : Nat) (m0 : Mem) : KN := (fun e m => endK f51 m0 .nrm e m)
def x51_0 (call : CL) (n : Nat) (m0 : Mem) : KX := (endK f51 m0)
def S51_0 (call : CL) (n : Nat) (m0 : Mem) (y0 y1 : AV) (m : Mem) : Rho := G51_0 call n m0 y0 y1 m
def d51_0 (call : CL) (n : Nat) (m0 : Mem) (y0 y1 : AV) (m : Mem) : Rho := evK call n b51_0 [(4, y0), (5, y1)] m (k51_0 call n m0) (x51_0 call n m0)
theorem l51_0 {call : CL} {n : Nat} {m0 : Mem} : d51_0 call n m0 = S51_0 call n m0 := by
  funext y0 y1 m
  have h : d51_0 call n m0 y0 y1 m = G51_0 call n m0 y0 y1 m := Eq.mp (by kernel_rfl) (g51_0 call n m0 y0 y1 m)
  exact h
def G51_1 (call : CL) (n : Nat) (m0 : Mem) (Q51_0 : Y2) (y0 y1 y2 : AV) (m : Mem) : Rho :=
  newK [(.list .full 0 []), (.bool false)] m fun a0 m1 =>
  makeMapK m1 fun a2 m3 =>
  mapUpdateK ⟨[.i], false⟩ a2 (.int .i64 0) (.int .i64 0) m3 fun a4 m5 =>
  mapUpdateK ⟨[.i], false⟩ a2 (.int .i64 1) (.int .i64 1) m5 fun a6 m7 =>
  newK [.nilmap] m7 fun a8 m9 =>
  storeK 1 a8 a2 m9 fun a10 m11 =>
  newK [.nilfunc] m11 fun a12 m13 =>
  storeK 1 a12 (.func 80 [] [a8, y1, a12, a0]) m13 fun a14 m15 =>
  loadK none a12 m15 fun a16 m17 =>
  callK call a16 false [y0] m17 fun a18 m19 =>
  vK (aFieldAddr 0 1 a0) m19 fun a20 m21 =>
  loadK none a20 m21 fun a22 m23 =>
  vK (aLen m23 1 a22) m23 fun a24 m25 =>
  binK .gtr a24 (.int .i64 256) fun a26 =>
  condK a26
  (callK call (.func 10 [] []) false [(.bool true)] m25 fun a27 m28 =>
  storeK 2 y2 a27 m28 fun a29 m30 =>
  loadK (some 2) y2 m30 fun a31 _ =>
  retK false false m0 [a31] m30)
  (Q51_0 y2 a0 m25)
theorem g51_1 (call : CL) (n : Nat) (m0 : Mem) (b51_0 : C) (y0 y1 y2 : AV) (m : Mem) : evK call n (c51_1 b51_0) [(1, y0), (2, y1), (4, y2)] m (fun e m => endK f51 m0 .nrm e m) (endK f51 m0) = G51_1 call n m0 (fun x0 x1 m => evK call n b51_0 [(4, x0), (5, x1)] m (fun e m => endK f51 m0 .nrm e m) (endK f51 m0)) y0 y1 y2 m := by kernel_rfl
def k51_1 (call : CL) (n : Nat) (m0 : Mem) : KN := (fun e m => endK f51 m0 .nrm e m)
def x51_1 (call : CL) (n : Nat) (m0 : Mem) : KX := (endK f51 m0)
def S51_1 (call : CL) (n : Nat) (m0 : Mem) (y0 y1 y2 : AV) (m : Mem) : Rho := G51_1 call n m0 (S51_0 call n m0) y0 y1 y2 m
def d51_1 (call : CL) (n : Nat) (m0 : Mem) (y0 y1 y2 : AV) (m : Mem) : Rho := evK call n b51_1 [(1, y0), (2, y1), (4, y2)] m (k51_1 call n m0) (x51_1 call n m0)
theorem l51_1 {call : CL} {n : Nat} {m0 : Mem} : d51_1 call n m0 = S51_1 call n m0 := by
  funext y0 y1 y2 m
  have h : d51_1 call n m0 y0 y1 y2 m = G51_1 call n m0 (d51_0 call n m0) y0 y1 y2 m := Eq.mp (by kernel_rfl) (g51_1 call n m0 b51_0 y0 y1 y2 m)
  rw [l51_0] at h; exact h
def G51 (call : CL) (n : Nat) (m0 : Mem) (Q51_1 : Y3) (y0 y1 : AV) (m : Mem) : Rho :=
  boxK y0 m fun a0 m1 =>
  newK [(.list .full 0 []), (.bool false)] m1 fun a2 m3 =>
  binK .lss y1 (.int .i64 2) fun a4 =>
  condK a4
  (binK .eql y1 (.int .i64 1) fun a5 =>
  buildK [(.list .full 0 []), (.bool false)] [(1, 1, AV.untag1 a5)] fun a6 =>
  storeK 2 a2 a6 m3 fun a7 m8 =>
  loadK (some 2) a2 m8 fun a9 _ =>
  retK false false m0 [a9] m8)
  (Q51_1 y1 a0 a2 m3)
theorem g51 (call : CL) (n : Nat) (m0 : Mem) (b51_1 : C) (y0 y1 : AV) (m : Mem) : evK call n (c51 b51_1) [(0, y0), (1, y1)] m (fun e m => endK f51 m0 .nrm e m) (endK f51 m0) = G51 call n m0 (fun x0 x1 x2 m => evK call n b51_1 [(1, x0), (2, x1), (4, x2)] m (fun e m => endK f51 m0 .nrm e m) (endK f51 m0)) y0 y1 m := by kernel_rfl
def S51 (call : CL) (n : Nat) (m0 : Mem) (y0 y1 : AV) : Rho := G51 call n m0 (S51_1 call n m0) y0 y1 { m0 with bad := none }
theorem s51 (call : CL) (n : Nat) (m0 : Mem) (y0 y1 : AV) : bodyK call n f51 [y0, y1] m0 = S51 call n m0 y0 y1 :=
  have h : bodyK call n f51 [y0, y1] m0 = G51 call n m0 (d51_1 call n m0) y0 y1 { m0 with bad := none } := Eq.mp (by kernel_rfl) (g51 call n m0 b51_1 y0 y1 { m0 with bad := none })
  by rw [l51_1] at h; exact h
def F51 : SF := fun call n vs m0 => unc vs fun x0 vs => unc vs fun x1 vs => unz vs (S51 call n m0 x0 x1)
theorem F51_ok {orc : List AV → Mem → Option (AV × Mem)} : SOk 51 { f51 with orc := orc } F51 := by
  intro call n vs m0 ho r h0
  simp only [F51] at h0
  obtain ⟨y0, v0, rfl, h1⟩ := unc_some h0
  obtain ⟨y1, v1, rfl, h2⟩ := unc_some h1
  obtain ⟨rfl, hz⟩ := unz_some h2
  exact bodyK_le ho rfl r (Eq.mp (by kernel_rfl) ((s51 call n m0 y0 y1).trans hz))

-- resolvent/pos.or
def G52_0 (call : CL) (n : Nat) (m0 : Mem) (m : Mem) : Rho :=
  retK false false m0 [(.int .i64 0), (.bool false)] m
theorem g52_0 (call : CL) (n : Nat) (m0 : Mem) (m : Mem) : evK call n b52_0 [] m (fun e m => endK f52 m0 .nrm e m) (endK f52 m0) = G52_0 call n m0 m := by kernel_rfl
def k52_0 (call : CL) (n : Nat) (m0 : Mem) : KN := (fun e m => endK f52 m0 .nrm e m)
def x52_0 (call : CL) (n : Nat) (m0 : Mem) : KX := (endK f52 m0)
def S52_0 (call : CL) (n : Nat) (m0 : Mem) (m : Mem) : Rho := G52_0 call n m0 m
def d52_0 (call : CL) (n : Nat) (m0 : Mem) (m : Mem) : Rho := evK call n b52_0 [] m (k52_0 call n m0) (x52_0 call n m0)
theorem l52_0 {call : CL} {n : Nat} {m0 : Mem} : d52_0 call n m0 = S52_0 call n m0 := by
  funext m
  have h : d52_0 call n m0 m = G52_0 call n m0 m := Eq.mp (by kernel_rfl) (g52_0 call n m0 m)
  exact h
def G52 (call : CL) (n : Nat) (m0 : Mem) (Q52_0 : Y0) (y0 y1 : AV) (m : Mem) : Rho :=
  binK .eql y0 (.int .i64 1) fun a0 =>
  gK a0 false (fun k => k y1 m) m fun a1 m2 =>
  gK a0 false (fun k => binK .eql a1 (.int .i64 1) fun a3 =>
  k a3 m2) m2 fun a4 m5 =>
  pickK a0 (some (.bool true)) (some a4) fun a6 =>
  condK a6
  (retK false false m0 [(.int .i64 1), (.bool true)] m5)
  (binK .eql y0 (.int .i64 0) fun a7 =>
  condK a7
  (retK false false m0 [y1, (.bool true)] m5)
  (binK .eql y1 (.int .i64 0) fun a8 =>
  gK a8 false (fun k => k y0 m5) m5 fun a9 m10 =>
  gK a8 false (fun k => k y1 m10) m10 fun a11 m12 =>
  gK a8 false (fun k => binK .eql a9 a11 fun a13 =>
  k a13 m12) m12 fun a14 m15 =>
  pickK a8 (some (.bool true)) (some a14) fun a16 =>
  condK a16
  (retK false false m0 [y0, (.bool true)] m15)
  (Q52_0 m15)))
theorem g52 (call : CL) (n : Nat) (m0 : Mem) (b52_0 : C) (y0 y1 : AV) (m : Mem) : evK call n (c52 b52_0) [(0, y0), (1, y1)] m (fun e m => endK f52 m0 .nrm e m) (endK f52 m0) = G52 call n m0 (fun m => evK call n b52_0 [] m (fun e m => endK f52 m0 .nrm e m) (endK f52 m0)) y0 y1 m := by kernel_rfl
def S52 (call : CL) (n : Nat) (m0 : Mem) (y0 y1 : AV) : Rho := G52 call n m0 (S52_0 call n m0) y0 y1 { m0 with bad := none }
theorem s52 (call : CL) (n : Nat) (m0 : Mem) (y0 y1 : AV) : bodyK call n f52 [y0, y1] m0 = S52 call n m0 y0 y1 :=
  have h : bodyK call n f52 [y0, y1] m0 = G52 call n m0 (d52_0 call n m0) y0 y1 { m0 with bad := none } := Eq.mp (by kernel_rfl) (g52 call n m0 b52_0 y0 y1 { m0 with bad := none })
  by rw [l52_0] at h; exact h
def F52 : SF := fun call n vs m0 => unc vs fun x0 vs => unc vs fun x1 vs => unz vs (S52 call n m0 x0 x1)
theorem F52_ok {orc : List AV → Mem → Option (AV × Mem)} : SOk 52 { f52 with orc := orc } F52 := by
  intro call n vs m0 ho r h0
  simp only [F52] at h0
  obtain ⟨y0, v0, rfl, h1⟩ := unc_some h0
  obtain ⟨y1, v1, rfl, h2⟩ := unc_some h1
  obtain ⟨rfl, hz⟩ := unz_some h2
  exact bodyK_le ho rfl r (Eq.mp (by kernel_rfl) ((s52 call n m0 y0 y1).trans hz))

-- (*resolvent/pos.table).opposite
def G53_1 (call : CL) (n : Nat) (m0 : Mem) (y0 y1 : AV) (m : Mem) : Rho :=
  nilK y0 fun a0 =>
  vK (aFieldAddr 0 1 a0) m fun a1 m2 =>
  loadK none a1 m2 fun a3 m4 =>
  binK .sub y1 (.int .i64 2) fun a5 =>
  vK (aIndexAddr m4 3 a3 a5) m4 fun a6 m7 =>
  loadK (some 3) a6 m7 fun a8 m9 =>
  newK [(.int .i64 0), (.int .i64 0), (.int .i64 0)] m9 fun a10 m11 =>
  storeK 3 a10 a8 m11 fun a12 m13 =>
  vK (aFieldAddr 1 1 a10) m13 fun a14 m15 =>
  loadK none a14 m15 fun a16 m17 =>
  callK call (.func 53 [] []) false [y0, a16] m17 fun a18 m19 =>
  vK (aFieldAddr 0 1 a10) m19 fun a20 m21 =>
  loadK none a20 m21 fun a22 m23 =>
  vK (aFieldAddr 2 1 a10) m23 fun a24 m25 =>
  loadK none a24 m25 fun a26 m27 =>
  callK call (.func 53 [] []) false [y0, a26] m27 fun a28 m29 =>
  buildK [(.int .i64 0), (.int .i64 0), (.int .i64 0)] [(0, 1, AV.untag1 a22), (1, 1, AV.untag1 a18), (2, 1, AV.untag1 a28)] fun a30 =>
  callK call (.func 50 [] []) false [y0, a30] m29 fun a31 m32 =>
  cond (stayK [m19, m29, m32] [(fun m => m.load none a20, a22, 0, 2, true)]) (retK false false m0 [a31] m32) none
theorem g53_1 (call : CL) (n : Nat) (m0 : Mem) (y0 y1 : AV) (m : Mem) : evK call n b53_1 [(0, y0), (1, y1)] m (fun e m => endK f53 m0 .nrm e m) (endK f53 m0) = G53_1 call n m0 y0 y1 m := by kernel_rfl
def k53_1 (call : CL) (n : Nat) (m0 : Mem) : KN := (fun e m => endK f53 m0 .nrm e m)
def x53_1 (call : CL) (n : Nat) (m0 : Mem) : KX := (endK f53 m0)
def S53_1 (call : CL) (n : Nat) (m0 : Mem) (y0 y1 : AV) (m : Mem) : Rho := G53_1 call n m0 y0 y1 m
def d53_1 (call : CL) (n : Nat) (m0 : Mem) (y0 y1 : AV) (m : Mem) : Rho := evK call n b53_1 [(0, y0), (1, y1)] m (k53_1 call n m0) (x53_1 call n m0)
theorem l53_1 {call : CL} {n : Nat} {m0 : Mem} : d53_1 call n m0 = S53_1 call n m0 := by
  funext y0 y1 m
  have h : d53_1 call n m0 y0 y1 m = G53_1 call n m0 y0 y1 m := Eq.mp (by kernel_rfl) (g53_1 call n m0 y0 y1 m)
  exact h
def G53 (call : CL) (n : Nat) (m0 : Mem) (Q53_1 : Y2) (y0 y1 : AV) (m : Mem) : Rho :=
  binK .lss y1 (.int .i64 2) fun a0 =>
  condK a0
  (binK .sub (.int .i64 1) y1 fun a1 =>
  retK false false m0 [a1] m)
  (Q53_1 y0 y1 m)
theorem g53 (call : CL) (n : Nat) (m0 : Mem) (b53_1 : C) (y0 y1 : AV) (m : Mem) : evK call n (c53 b53_1) [(0, y0), (1, y1)] m (fun e m => endK f53 m0 .nrm e m) (endK f53 m0) = G53 call n m0 (fun x0 x1 m => evK call n b53_1 [(0, x0), (1, x1)] m (fun e m => endK f53 m0 .nrm e m) (endK f53 m0)) y0 y1 m := by kernel_rfl
def S53 (call : CL) (n : Nat) (m0 : Mem) (y0 y1 : AV) : Rho := G53 call n m0 (S53_1 call n m0) y0 y1 { m0 with bad := none }
theorem s53 (call : CL) (n : Nat) (m0 : Mem) (y0 y1 : AV) : bodyK call n f53 [y0, y1] m0 = S53 call n m0 y0 y1 :=
  have h : bodyK call n f53 [y0, y1] m0 = G53 call n m0 (d53_1 call n m0) y0 y1 { m0 with bad := none } := Eq.mp (by kernel_rfl) (g53 call n m0 b53_1 y0 y1 { m0 with bad := none })
  by rw [l53_1] at h; exact h
def F53 : SF := fun call n vs m0 => unc vs fun x0 vs => unc vs fun x1 vs => unz vs (S53 call n m0 x0 x1)
theorem F53_ok {orc : List AV → Mem → Option (AV × Mem)} : SOk 53 { f53 with orc := orc } F53 := by
  intro call n vs m0 ho r h0
  simp only [F53] at h0
  obtain ⟨y0, v0, rfl, h1⟩ := unc_some h0
  obtain ⟨y1, v1, rfl, h2⟩ := unc_some h1
  obtain ⟨rfl, hz⟩ := unz_some h2
  exact bodyK_le ho rfl r (Eq.mp (by kernel_rfl) ((s53 call n m0 y0 y1).trans hz))

-- slices.Equal[[]resolvent/pos.node,resolvent/pos.node]
def G59_4 (call : CL) (n : Nat) (m0 : Mem) (m : Mem) : Rho :=
  retK false false m0 [(.bool true)] m
theorem g59_4 (call : CL) (n : Nat) (m0 : Mem) (m : Mem) : evK call n b59_4 [] m (fun e m => endK f59 m0 .nrm e m) (endK f59 m0) = G59_4 call n m0 m := by kernel_rfl
def k59_4 (call : CL) (n : Nat) (m0 : Mem) : KN := (fun e m => endK f59 m0 .nrm e m)
def x59_4 (call : CL) (n : Nat) (m0 : Mem) : KX := (endK f59 m0)
def S59_4 (call : CL) (n : Nat) (m0 : Mem) (m : Mem) : Rho := G59_4 call n m0 m
def d59_4 (call : CL) (n : Nat) (m0 : Mem) (m : Mem) : Rho := evK call n b59_4 [] m (k59_4 call n m0) (x59_4 call n m0)
theorem l59_4 {call : CL} {n : Nat} {m0 : Mem} : d59_4 call n m0 = S59_4 call n m0 := by
  funext m
  have h : d59_4 call n m0 m = G59_4 call n m0 m := Eq.mp (by kernel_rfl) (g59_4 call n m0 m)
  exact h
def G59_1 (call : CL) (n : Nat) (kn : KN) (kx : KX) (y0 y1 y2 y3 : AV) (m : Mem) : Rho :=
  binK .add y3 (.int .i64 1) fun a0 =>
  kn [(0, y0), (1, y1), (12, y2), (13, a0)] m
theorem g59_1 (call : CL) (n : Nat) (kn : KN) (kx : KX) (y0 y1 y2 y3 : AV) (m : Mem) : evK call n b59_1 [(0, y0), (1, y1), (12, y2), (13, y3)] m kn kx = G59_1 call n kn kx y0 y1 y2 y3 m := by kernel_rfl
def k59_1 (call : CL) (n : Nat) (kn : KN) (kx : KX) : KN := kn
def x59_1 (call : CL) (n : Nat) (kn : KN) (kx : KX) : KX := kx
def S59_1 (call : CL) (n : Nat) (kn : KN) (kx : KX) (y0 y1 y2 y3 : AV) (m : Mem) : Rho := G59_1 call n kn kx y0 y1 y2 y3 m
def d59_1 (call : CL) (n : Nat) (kn : KN) (kx : KX) (y0 y1 y2 y3 : AV) (m : Mem) : Rho := evK call n b59_1 [(0, y0), (1, y1), (12, y2), (13, y3)] m (k59_1 call n kn kx) (x59_1 call n kn kx)
theorem l59_1 {call : CL} {n : Nat} {kn : KN} {kx : KX} : d59_1 call n kn kx = S59_1 call n kn kx := by
  funext y0 y1 y2 y3 m
  have h : d59_1 call n kn kx y0 y1 y2 y3 m = G59_1 call n kn kx y0 y1 y2 y3 m := Eq.mp (by kernel_rfl) (g59_1 call n kn kx y0 y1 y2 y3 m)
  exact h
def G59_2 (call : CL) (n : Nat) (kn : KN) (kx : KX) (Q59_1 : Y4) (y0 y1 y2 y3 : AV) (m : Mem) : Rho :=
  vK (aIndexAddr m 3 y0 y3) m fun a0 m1 =>
  loadK (some 3) a0 m1 fun a2 m3 =>
  vK (aIndexAddr m3 3 y1 y3) m3 fun a4 m5 =>
  loadK (some 3) a4 m5 fun a6 m7 =>
  eqvK ⟨[.i, .i, .i], true⟩ true a2 a6 fun a8 =>
  condK a8
  (kx .ret [(4, (.bool false))] m7)
  (Q59_1 y0 y1 y2 y3 m7)
theorem g59_2 (call : CL) (n : Nat) (kn : KN) (kx : KX) (b59_1 : C) (y0 y1 y2 y3 : AV) (m : Mem) : evK call n (c59_2 b59_1) [(0, y0), (1, y1), (12, y2), (13, y3)] m kn kx = G59_2 call n kn kx (fun x0 x1 x2 x3 m => evK call n b59_1 [(0, x0), (1, x1), (12, x2), (13, x3)] m kn kx) y0 y1 y2 y3 m := by kernel_rfl
def k59_2 (call : CL) (n : Nat) (kn : KN) (kx : KX) : KN := kn
def x59_2 (call : CL) (n : Nat) (kn : KN) (kx : KX) : KX := kx
def S59_2 (call : CL) (n : Nat) (kn : KN) (kx : KX) (y0 y1 y2 y3 : AV) (m : Mem) : Rho := G59_2 call n kn kx (S59_1 call n kn kx) y0 y1 y2 y3 m
def d59_2 (call : CL) (n : Nat) (kn : KN) (kx : KX) (y0 y1 y2 y3 : AV) (m : Mem) : Rho := evK call n b59_2 [(0, y0), (1, y1), (12, y2), (13, y3)] m (k59_2 call n kn kx) (x59_2 call n kn kx)
theorem l59_2 {call : CL} {n : Nat} {kn : KN} {kx : KX} : d59_2 call n kn kx = S59_2 call n kn kx := by
  funext y0 y1 y2 y3 m
  have h : d59_2 call n kn kx y0 y1 y2 y3 m = G59_2 call n kn kx (d59_1 call n kn kx) y0 y1 y2 y3 m := Eq.mp (by kernel_rfl) (g59_2 call n kn kx b59_1 y0 y1 y2 y3 m)
  rw [l59_1] at h; exact h
def G59_3 (call : CL) (n : Nat) (kn : KN) (kx : KX) (Q59_2 : Y4) (y0 y1 y2 y3 : AV) (m : Mem) : Rho :=
  binK .lss y3 y2 fun a0 =>
  condK a0
  (Q59_2 y0 y1 y2 y3 m)
  (kx (.ext 0) [(0, y0), (1, y1), (12, y2), (13, y3), (14, a0)] m)
theorem g59_3 (call : CL) (n : Nat) (kn : KN) (kx : KX) (b59_2 : C) (y0 y1 y2 y3 : AV) (m : Mem) : evK call n (c59_3 b59_2) [(0, y0), (1, y1), (12, y2), (13, y3)] m kn kx = G59_3 call n kn kx (fun x0 x1 x2 x3 m => evK call n b59_2 [(0, x0), (1, x1), (12, x2), (13, x3)] m kn kx) y0 y1 y2 y3 m := by kernel_rfl
def S59_3 (call : CL) (n : Nat) (kn : KN) (kx : KX) (y0 y1 y2 y3 : AV) (m : Mem) : Rho := G59_3 call n kn kx (S59_2 call n kn kx) y0 y1 y2 y3 m
def d59_3 (call : CL) (n : Nat) (kn : KN) (kx : KX) (y0 y1 y2 y3 : AV) (m : Mem) : Rho := evK call n b59_3 [(0, y0), (1, y1), (12, y2), (13, y3)] m kn kx
theorem l59_3 {call : CL} {n : Nat} : d59_3 call n = S59_3 call n := by
  funext kn kx y0 y1 y2 y3 m
  have h : d59_3 call n kn kx y0 y1 y2 y3 m = G59_3 call n kn kx (d59_2 call n kn kx) y0 y1 y2 y3 m := Eq.mp (by kernel_rfl) (g59_3 call n kn kx b59_2 y0 y1 y2 y3 m)
  rw [l59_2] at h; exact h
def G59_5 (call : CL) (n : Nat) (m0 : Mem) (B59_3 : KN → KX → Y4) (Q59_4 : Y0) (y0 y1 : AV) (m : Mem) : Rho :=
  vK (aLen m 1 y0) m fun a0 m1 =>
  loopV [0, 1, 12, 13] none (fun vs m kn kx => unc vs fun x0 vs => unc vs fun x1 vs => unc vs fun x2 vs => unc vs fun x3 vs => unz vs (B59_3 kn kx x0 x1 x2 x3 m)) (blkK 0 (fun e m => keepK e [] fun vs => unz vs (Q59_4 m)) (endK f59 m0)) n [y0, y1, a0, (.int .i64 0)] m1
theorem g59_5 (call : CL) (n : Nat) (m0 : Mem) (b59_3 : C) (b59_4 : C) (y0 y1 : AV) (m : Mem) : evK call n (c59_5 b59_3 b59_4) [(0, y0), (1, y1)] m (fun e m => endK f59 m0 .nrm e m) (endK f59 m0) = G59_5 call n m0 (fun kn kx x0 x1 x2 x3 m => evK call n b59_3 [(0, x0), (1, x1), (12, x2), (13, x3)] m kn kx) (fun m => evK call n b59_4 [] m (fun e m => endK f59 m0 .nrm e m) (endK f59 m0)) y0 y1 m := by kernel_rfl
def k59_5 (call : CL) (n : Nat) (m0 : Mem) : KN := (fun e m => endK f59 m0 .nrm e m)
def x59_5 (call : CL) (n : Nat) (m0 : Mem) : KX := (endK f59 m0)
def S59_5 (call : CL) (n : Nat) (m0 : Mem) (y0 y1 : AV) (m : Mem) : Rho := G59_5 call n m0 (S59_3 call n) (S59_4 call n m0) y0 y1 m
def d59_5 (call : CL) (n : Nat) (m0 : Mem) (y0 y1 : AV) (m : Mem) : Rho := evK call n b59_5 [(0, y0), (1, y1)] m (k59_5 call n m0) (x59_5 call n m0)
theorem l59_5 {call : CL} {n : Nat} {m0 : Mem} : d59_5 call n m0 = S59_5 call n m0 := by
  funext y0 y1 m
  have h : d59_5 call n m0 y0 y1 m = G59_5 call n m0 (d59_3 call n) (d59_4 call n m0) y0 y1 m := Eq.mp (by kernel_rfl) (g59_5 call n m0 b59_3 b59_4 y0 y1 m)
  rw [l59_3, l59_4] at h; exact h
def G59 (call : CL) (n : Nat) (m0 : Mem) (Q59_5 : Y2) (y0 y1 : AV) (m : Mem) : Rho :=
  vK (aLen m 1 y0) m fun a0 m1 =>
  vK (aLen m1 1 y1) m1 fun a2 m3 =>
  binK .neq a0 a2 fun a4 =>
  condK a4
  (retK false false m0 [(.bool false)] m3)
  (Q59_5 y0 y1 m3)
theorem g59 (call : CL) (n : Nat) (m0 : Mem) (b59_5 : C) (y0 y1 : AV) (m : Mem) : evK call n (c59 b59_5) [(0, y0), (1, y1)] m (fun e m => endK f59 m0 .nrm e m) (endK f59 m0) = G59 call n m0 (fun x0 x1 m => evK call n b59_5 [(0, x0), (1, x1)] m (fun e m => endK f59 m0 .nrm e m) (endK f59 m0)) y0 y1 m := by kernel_rfl
def S59 (call : CL) (n : Nat) (m0 : Mem) (y0 y1 : AV) : Rho := G59 call n m0 (S59_5 call n m0) y0 y1 { m0 with bad := none }
theorem s59 (call : CL) (n : Nat) (m0 : Mem) (y0 y1 : AV) : bodyK call n f59 [y0, y1] m0 = S59 call n m0 y0 y1 :=
  have h : bodyK call n f59 [y0, y1] m0 = G59 call n m0 (d59_5 call n m0) y0 y1 { m0 with bad := none } := Eq.mp (by kernel_rfl) (g59 call n m0 b59_5 y0 y1 { m0 with bad := none })
  by rw [l59_5] at h; exact h
def F59 : SF := fun call n vs m0 => unc vs fun x0 vs => unc vs fun x1 vs => unz vs (S59 call n m0 x0 x1)
theorem F59_ok {orc : List AV → Mem → Option (AV × Mem)} : SOk 59 { f59 with orc := orc } F59 := by
  intro call n vs m0 ho r h0
  simp only [F59] at h0
  obtain ⟨y0, v0, rfl, h1⟩ := unc_some h0
  obtain ⟨y1, v1, rfl, h2⟩ := unc_some h1
  obtain ⟨rfl, hz⟩ := unz_some h2
  exact bodyK_le ho rfl r (Eq.mp (by kernel_rfl) ((s59 call n m0 y0 y1).trans hz))

-- (*resolvent/pos.table).with
def G60_2 (call : CL) (n : Nat) (m0 : Mem) (y0 y1 y2 y3 : AV) (m : Mem) : Rho :=
  vK (aFieldAddr 1 1 y3) m fun a0 m1 =>
  loadK none a0 m1 fun a2 m3 =>
  callK call (.func 60 [] []) false [y0, a2, y1, y2] m3 fun a4 m5 =>
  vK (aFieldAddr 0 1 y3) m5 fun a6 m7 =>
  loadK none a6 m7 fun a8 m9 =>
  vK (aFieldAddr 2 1 y3) m9 fun a10 m11 =>
  loadK none a10 m11 fun a12 m13 =>
  callK call (.func 60 [] []) false [y0, a12, y1, y2] m13 fun a14 m15 =>
  buildK [(.int .i64 0), (.int .i64 0), (.int .i64 0)] [(0, 1, AV.untag1 a8), (1, 1, AV.untag1 a4), (2, 1, AV.untag1 a14)] fun a16 =>
  callK call (.func 50 [] []) false [y0, a16] m15 fun a17 m18 =>
  cond (stayK [m5, m15, m18] [(fun m => m.load none a6, a8, 0, 2, true)]) (retK false false m0 [a17] m18) none
theorem g60_2 (call : CL) (n : Nat) (m0 : Mem) (y0 y1 y2 y3 : AV) (m : Mem) : evK call n b60_2 [(0, y0), (2, y1), (3, y2), (9, y3)] m (fun e m => endK f60 m0 .nrm e m) (endK f60 m0) = G60_2 call n m0 y0 y1 y2 y3 m := by kernel_rfl
def k60_2 (call : CL) (n : Nat) (m0 : Mem) : KN := (fun e m => endK f60 m0 .nrm e m)
def x60_2 (call : CL) (n : Nat) (m0 : Mem) : KX := (endK f60 m0)
def S60_2 (call : CL) (n : Nat) (m0 : Mem) (y0 y1 y2 y3 : AV) (m : Mem) : Rho := G60_2 call n m0 y0 y1 y2 y3 m
def d60_2 (call : CL) (n : Nat) (m0 : Mem) (y0 y1 y2 y3 : AV) (m : Mem) : Rho := evK call n b60_2 [(0, y0), (2, y1), (3, y2), (9, y3)] m (k60_2 call n m0) (x60_2 call n m0)
theorem l60_2 {call : CL} {n : Nat} {m0 : Mem} : d60_2 call n m0 = S60_2 call n m0 := by
  funext y0 y1 y2 y3 m
  have h : d60_2 call n m0 y0 y1 y2 y3 m = G60_2 call n m0 y0 y1 y2 y3 m := Eq.mp (by kernel_rfl) (g60_2 call n m0 y0 y1 y2 y3 m)
  exact h
def G60_0 (call : CL) (n : Nat) (m0 : Mem) (y0 : AV) (m : Mem) : Rho :=
  vK (aFieldAddr 1 1 y0) m fun a0 m1 =>
  loadK none a0 m1 fun a2 m3 =>
  retK false false m0 [a2] m3
theorem g60_0 (call : CL) (n : Nat) (m0 : Mem) (b60_2 : C) (k60_2 : KN) (x60_2 : KX) (y0 : AV) (m : Mem) : evK call n b60_0 [(9, y0)] m (jn call n [0, 2, 3, 9] b60_2 k60_2 x60_2) (endK f60 m0) = G60_0 call n m0 y0 m := by kernel_rfl
def k60_0 (call : CL) (n : Nat) (m0 : Mem) : KN := (jn call n [0, 2, 3, 9] b60_2 (k60_2 call n m0) (x60_2 call n m0))
def x60_0 (call : CL) (n : Nat) (m0 : Mem) : KX := (endK f60 m0)
def S60_0 (call : CL) (n : Nat) (m0 : Mem) (y0 : AV) (m : Mem) : Rho := G60_0 call n m0 y0 m
def d60_0 (call : CL) (n : Nat) (m0 : Mem) (y0 : AV) (m : Mem) : Rho := evK call n b60_0 [(9, y0)] m (k60_0 call n m0) (x60_0 call n m0)
theorem l60_0 {call : CL} {n : Nat} {m0 : Mem} : d60_0 call n m0 = S60_0 call n m0 := by
  funext y0 m
  have h : d60_0 call n m0 y0 m = G60_0 call n m0 y0 m := Eq.mp (by kernel_rfl) (g60_0 call n m0 b60_2 (k60_2 call n m0) (x60_2 call n m0) y0 m)
  exact h
def G60_3 (call : CL) (n : Nat) (m0 : Mem) (Q60_0 : Y1) (Q60_2 : Y4) (y0 y1 y2 y3 : AV) (m : Mem) : Rho :=
  nilK y0 fun a0 =>
  vK (aFieldAddr 0 1 a0) m fun a1 m2 =>
  loadK none a1 m2 fun a3 m4 =>
  binK .sub y1 (.int .i64 2) fun a5 =>
  vK (aIndexAddr m4 3 a3 a5) m4 fun a6 m7 =>
  loadK (some 3) a6 m7 fun a8 m9 =>
  newK [(.int .i64 0), (.int .i64 0), (.int .i64 0)] m9 fun a10 m11 =>
  storeK 3 a10 a8 m11 fun a12 m13 =>
  vK (aFieldAddr 0 1 a10) m13 fun a14 m15 =>
  loadK none a14 m15 fun a16 m17 =>
  binK .eql a16 y2 fun a18 =>
  condK a18
  (condK y3
  (vK (aFieldAddr 2 1 a10) m17 fun a19 m20 =>
  loadK none a19 m20 fun a21 m22 =>
  retK false false m0 [a21] m22)
  (Q60_0 a10 m17))
  (Q60_2 y0 y2 y3 a10 m17)
theorem g60_3 (call : CL) (n : Nat) (m0 : Mem) (b60_0 : C) (b60_2 : C) (y0 y1 y2 y3 : AV) (m : Mem) : evK call n (c60_3 b60_0 b60_2) [(0, y0), (1, y1), (2, y2), (3, y3)] m (fun e m => endK f60 m0 .nrm e m) (endK f60 m0) = G60_3 call n m0 (fun x0 m => evK call n b60_0 [(9, x0)] m (jn call n [0, 2, 3, 9] b60_2 (fun e m => endK f60 m0 .nrm e m) (endK f60 m0)) (endK f60 m0)) (fun x0 x1 x2 x3 m => evK call n b60_2 [(0, x0), (2, x1), (3, x2), (9, x3)] m (fun e m => endK f60 m0 .nrm e m) (endK f60 m0)) y0 y1 y2 y3 m := by kernel_rfl
def k60_3 (call : CL) (n : Nat) (m0 : Mem) : KN := (fun e m => endK f60 m0 .nrm e m)
def x60_3 (call : CL) (n : Nat) (m0 : Mem) : KX := (endK f60 m0)
def S60_3 (call : CL) (n : Nat) (m0 : Mem) (y0 y1 y2 y3 : AV) (m : Mem) : Rho := G60_3 call n m0 (S60_0 call n m0) (S60_2 call n m0) y0 y1 y2 y3 m
def d60_3 (call : CL) (n : Nat) (m0 : Mem) (y0 y1 y2 y3 : AV) (m : Mem) : Rho := evK call n b60_3 [(0, y0), (1, y1), (2, y2), (3, y3)] m (k60_3 call n m0) (x60_3 call n m0)
theorem l60_3 {call : CL} {n : Nat} {m0 : Mem} : d60_3 call n m0 = S60_3 call n m0 := by
  funext y0 y1 y2 y3 m
  have h : d60_3 call n m0 y0 y1 y2 y3 m = G60_3 call n m0 (d60_0 call n m0) (d60_2 call n m0) y0 y1 y2 y3 m := Eq.mp (by kernel_rfl) (g60_3 call n m0 b60_0 b60_2 y0 y1 y2 y3 m)
  rw [l60_0, l60_2] at h; exact h
def G60 (call : CL) (n : Nat) (m0 : Mem) (Q60_3 : Y4) (y0 y1 y2 y3 : AV) (m : Mem) : Rho :=
  callK call (.func 76 [] []) false [y0, y1] m fun a0 m1 =>
  binK .gtr a0 y2 fun a2 =>
  condK a2
  (retK false false m0 [y1] m1)
  (Q60_3 y0 y1 y2 y3 m1)
theorem g60 (call : CL) (n : Nat) (m0 : Mem) (b60_3 : C) (y0 y1 y2 y3 : AV) (m : Mem) : evK call n (c60 b60_3) [(0, y0), (1, y1), (2, y2), (3, y3)] m (fun e m => endK f60 m0 .nrm e m) (endK f60 m0) = G60 call n m0 (fun x0 x1 x2 x3 m => evK call n b60_3 [(0, x0), (1, x1), (2, x2), (3, x3)] m (fun e m => endK f60 m0 .nrm e m) (endK f60 m0)) y0 y1 y2 y3 m := by kernel_rfl
def S60 (call : CL) (n : Nat) (m0 : Mem) (y0 y1 y2 y3 : AV) : Rho := G60 call n m0 (S60_3 call n m0) y0 y1 y2 y3 { m0 with bad := none }
theorem s60 (call : CL) (n : Nat) (m0 : Mem) (y0 y1 y2 y3 : AV) : bodyK call n f60 [y0, y1, y2, y3] m0 = S60 call n m0 y0 y1 y2 y3 :=
  have h : bodyK call n f60 [y0, y1, y2, y3] m0 = G60 call n m0 (d60_3 call n m0) y0 y1 y2 y3 { m0 with bad := none } := Eq.mp (by kernel_rfl) (g60 call n m0 b60_3 y0 y1 y2 y3 { m0 with bad := none })
  by rw [l60_3] at h; exact h
def F60 : SF := fun call n vs m0 => unc vs fun x0 vs => unc vs fun x1 vs => unc vs fun x2 vs => unc vs fun x3 vs => unz vs (S60 call n m0 x0 x1 x2 x3)
theorem F60_ok {orc : List AV → Mem → Option (AV × Mem)} : SOk 60 { f60 with orc := orc } F60 := by
  intro call n vs m0 ho r h0
  simp only [F60] at h0
  obtain ⟨y0, v0, rfl, h1⟩ := unc_some h0
  obtain ⟨y1, v1, rfl, h2⟩ := unc_some h1
  obtain ⟨y2, v2, rfl, h3⟩ := unc_some h2
  obtain ⟨y3, v3, rfl, h4⟩ := unc_some h3
  obtain ⟨rfl, hz⟩ := unz_some h4
  exact bodyK_le ho rfl r (Eq.mp (by kernel_rfl) ((s60 call n m0 y0 y1 y2 y3).trans hz))

-- (*resolvent/pos.table).both$1
def G75_2 (call : CL) (n : Nat) (m0 : Mem) (y0 y1 y2 y3 y4 y5 : AV) (m : Mem) : Rho :=
  loadK none y3 m fun a0 m1 =>
  callK call (.func 76 [] []) false [a0, y0] m1 fun a2 m3 =>
  loadK none y3 m3 fun a4 m5 =>
  callK call (.func 76 [] []) false [a4, y1] m5 fun a6 m7 =>
  min2K a2 a6 fun a8 =>
  cond (stayK [m, m3, m7] [(fun m => m.load none y3, a4, 0, 2, true)]) (loadK none y3 m7 fun a9 m10 =>
  callK call (.func 77 [] []) false [a9, y0, a8] m10 fun a11 m12 =>
  extractK a11 0 fun a13 =>
  extractK a11 1 fun a14 =>
  loadK none y3 m12 fun a15 m16 =>
  callK call (.func 77 [] []) false [a15, y1, a8] m16 fun a17 m18 =>
  extractK a17 0 fun a19 =>
  extractK a17 1 fun a20 =>
  loadK none y4 m18 fun a21 m22 =>
  callK call a21 false [a13, a19] m22 fun a23 m24 =>
  loadK none y2 m24 fun a25 m26 =>
  loadK (some 2) y5 m26 fun a27 m28 =>
  loadK none y3 m28 fun a29 m30 =>
  loadK none y4 m30 fun a31 m32 =>
  callK call a31 false [a14, a20] m32 fun a33 m34 =>
  buildK [(.int .i64 0), (.int .i64 0), (.int .i64 0)] [(0, 1, AV.untag1 a8), (1, 1, AV.untag1 a23), (2, 1, AV.untag1 a33)] fun a35 =>
  callK call (.func 50 [] []) false [a29, a35] m34 fun a36 m37 =>
  mapUpdateK ⟨[.i, .i], true⟩ a25 a27 a36 m37 fun a38 m39 =>
  cond (stayK [m24, m34, m37, m39] [(fun m => m.load none y2, a25, 0, 3, true), (fun m => m.load (some 2) y5, a27, 0, 3, true), (fun m => m.load none y3, a29, 0, 2, true)]) (loadK none y2 m39 fun a40 m41 =>
  loadK (some 2) y5 m41 fun a42 m43 =>
  lookupK ⟨[.i, .i], true⟩ (.int .i64 0) false a40 a42 m43 fun a44 =>
  retK false false m0 [a44] m43) none) none
theorem g75_2 (call : CL) (n : Nat) (m0 : Mem) (y0 y1 y2 y3 y4 y5 : AV) (m : Mem) : evK call n b75_2 [(0, y0), (1, y1), (3, y2), (4, y3), (5, y4), (11, y5)] m (fun e m => endK f75 m0 .nrm e m) (endK f75 m0) = G75_2 call n m0 y0 y1 y2 y3 y4 y5 m := by kernel_rfl
def k75_2 (call : CL) (n : Nat) (m0 : Mem) : KN := (fun e m => endK f75 m0 .nrm e m)
def x75_2 (call : CL) (n : Nat) (m0 : Mem) : KX := (endK f75 m0)
def S75_2 (call : CL) (n : Nat) (m0 : Mem) (y0 y1 y2 y3 y4 y5 : AV) (m : Mem) : Rho := G75_2 call n m0 y0 y1 y2 y3 y4 y5 m
def d75_2 (call : CL) (n : Nat) (m0 : Mem) (y0 y1 y2 y3 y4 y5 : AV) (m : Mem) : Rho := evK call n b75_2 [(0, y0), (1, y1), (3, y2), (4, y3), (5, y4), (11, y5)] m (k75_2 call n m0) (x75_2 call n m0)
theorem l75_2 {call : CL} {n : Nat} {m0 : Mem} : d75_2 call n m0 = S75_2 call n m0 := by
  funext y0 y1 y2 y3 y4 y5 m
  have h : d75_2 call n m0 y0 y1 y2 y3 y4 y5 m = G75_2 call n m0 y0 y1 y2 y3 y4 y5 m := Eq.mp (by kernel_rfl) (g75_2 call n m0 y0 y1 y2 y3 y4 y5 m)
  exact h
def G75_3 (call : CL) (n : Nat) (m0 : Mem) (Q75_2 : Y6) (y0 y1 y2 y3 y4 : AV) (m : Mem) : Rho :=
  buildK [(.int .i64 0), (.int .i64 0)] [(0, 1, AV.untag1 y0), (1, 1, AV.untag1 y1)] fun a0 =>
  newK [(.int .i64 0), (.int .i64 0)] m fun a1 m2 =>
  storeK 2 a1 a0 m2 fun a3 m4 =>
  loadK none y2 m4 fun a5 m6 =>
  loadK (some 2) a1 m6 fun a7 m8 =>
  lookupK ⟨[.i, .i], true⟩ (.int .i64 0) true a5 a7 m8 fun a9 =>
  extractK a9 0 fun a10 =>
  extractK a9 1 fun a11 =>
  condK a11
  (retK false false m0 [a10] m8)
  (Q75_2 y0 y1 y2 y3 y4 a1 m8)
theorem g75_3 (call : CL) (n : Nat) (m0 : Mem) (b75_2 : C) (y0 y1 y2 y3 y4 : AV) (m : Mem) : evK call n (c75_3 b75_2) [(0, y0), (1, y1), (3, y2), (4, y3), (5, y4)] m (fun e m => endK f75 m0 .nrm e m) (endK f75 m0) = G75_3 call n m0 (fun x0 x1 x2 x3 x4 x5 m => evK call n b75_2 [(0, x0), (1, x1), (3, x2), (4, x3), (5, x4), (11, x5)] m (fun e m => endK f75 m0 .nrm e m) (endK f75 m0)) y0 y1 y2 y3 y4 m := by kernel_rfl
def k75_3 (call : CL) (n : Nat) (m0 : Mem) : KN := (fun e m => endK f75 m0 .nrm e m)
def x75_3 (call : CL) (n : Nat) (m0 : Mem) : KX := (endK f75 m0)
def S75_3 (call : CL) (n : Nat) (m0 : Mem) (y0 y1 y2 y3 y4 : AV) (m : Mem) : Rho := G75_3 call n m0 (S75_2 call n m0) y0 y1 y2 y3 y4 m
def d75_3 (call : CL) (n : Nat) (m0 : Mem) (y0 y1 y2 y3 y4 : AV) (m : Mem) : Rho := evK call n b75_3 [(0, y0), (1, y1), (3, y2), (4, y3), (5, y4)] m (k75_3 call n m0) (x75_3 call n m0)
theorem l75_3 {call : CL} {n : Nat} {m0 : Mem} : d75_3 call n m0 = S75_3 call n m0 := by
  funext y0 y1 y2 y3 y4 m
  have h : d75_3 call n m0 y0 y1 y2 y3 y4 m = G75_3 call n m0 (d75_2 call n m0) y0 y1 y2 y3 y4 m := Eq.mp (by kernel_rfl) (g75_3 call n m0 b75_2 y0 y1 y2 y3 y4 m)
  rw [l75_2] at h; exact h
def G75 (call : CL) (n : Nat) (m0 : Mem) (Q75_3 : Y5) (y0 y1 y2 y3 y4 y5 : AV) (m : Mem) : Rho :=
  loadK none y2 m fun a0 m1 =>
  callK call a0 false [y0, y1] m1 fun a2 m3 =>
  extractK a2 0 fun a4 =>
  extractK a2 1 fun a5 =>
  condK a5
  (retK false false m0 [a4] m3)
  (Q75_3 y0 y1 y3 y4 y5 m3)
theorem g75 (call : CL) (n : Nat) (m0 : Mem) (b75_3 : C) (y0 y1 y2 y3 y4 y5 : AV) (m : Mem) : evK call n (c75 b75_3) [(0, y0), (1, y1), (2, y2), (3, y3), (4, y4), (5, y5)] m (fun e m => endK f75 m0 .nrm e m) (endK f75 m0) = G75 call n m0 (fun x0 x1 x2 x3 x4 m => evK call n b75_3 [(0, x0), (1, x1), (3, x2), (4, x3), (5, x4)] m (fun e m => endK f75 m0 .nrm e m) (endK f75 m0)) y0 y1 y2 y3 y4 y5 m := by kernel_rfl
def S75 (call : CL) (n : Nat) (m0 : Mem) (y0 y1 y2 y3 y4 y5 : AV) : Rho := G75 call n m0 (S75_3 call n m0) y0 y1 y2 y3 y4 y5 { m0 with bad := none }
theorem s75 (call : CL) (n : Nat) (m0 : Mem) (y0 y1 y2 y3 y4 y5 : AV) : bodyK call n f75 [y0, y1, y2, y3, y4, y5] m0 = S75 call n m0 y0 y1 y2 y3 y4 y5 :=
  have h : bodyK call n f75 [y0, y1, y2, y3, y4, y5] m0 = G75 call n m0 (d75_3 call n m0) y0 y1 y2 y3 y4 y5 { m0 with bad := none } := Eq.mp (by kernel_rfl) (g75 call n m0 b75_3 y0 y1 y2 y3 y4 y5 { m0 with bad := none })
  by rw [l75_3] at h; exact h
def F75 : SF := fun call n vs m0 => unc vs fun x0 vs => unc vs fun x1 vs => unc vs fun x2 vs => unc vs fun x3 vs => unc vs fun x4 vs => unc vs fun x5 vs => unz vs (S75 call n m0 x0 x1 x2 x3 x4 x5)
theorem F75_ok {orc : List AV → Mem → Option (AV × Mem)} : SOk 75 { f75 with orc := orc } F75 := by
  intro call n vs m0 ho r h0
  simp only [F75] at h0
  obtain ⟨y0, v0, rfl, h1⟩ := unc_some h0
  obtain ⟨y1, v1, rfl, h2⟩ := unc_some h1
  obtain ⟨y2, v2, rfl, h3⟩ := unc_some h2
  obtain ⟨y3, v3, rfl, h4⟩ := unc_some h3
  obtain ⟨y4, v4, rfl, h5⟩ := unc_some h4
  obtain ⟨y5, v5, rfl, h6⟩ := unc_some h5
  obtain ⟨rfl, hz⟩ := unz_some h6
  exact bodyK_le ho rfl r (Eq.mp (by kernel_rfl) ((s75 call n m0 y0 y1 y2 y3 y4 y5).trans hz))

-- (*resolvent/pos.table).top
def G76_0 (call : CL) (n : Nat) (m0 : Mem) (y0 y1 : AV) (m : Mem) : Rho :=
  nilK y0 fun a0 =>
  vK (aFieldAddr 0 1 a0) m fun a1 m2 =>
  loadK none a1 m2 fun a3 m4 =>
  binK .sub y1 (.int .i64 2) fun a5 =>
  vK (aIndexAddr m4 3 a3 a5) m4 fun a6 m7 =>
  vK (aFieldAddr 0 1 a6) m7 fun a8 m9 =>
  loadK none a8 m9 fun a10 m11 =>
  retK false false m0 [a10] m11
theorem g76_0 (call : CL) (n : Nat) (m0 : Mem) (y0 y1 : AV) (m : Mem) : evK call n b76_0 [(0, y0), (1, y1)] m (fun e m => endK f76 m0 .nrm e m) (endK f76 m0) = G76_0 call n m0 y0 y1 m := by kernel_rfl
def k76_0 (call : CL) (n : Nat) (m0 : Mem) : KN := (fun e m => endK f76 m0 .nrm e m)
def x76_0 (call : CL) (n : Nat) (m0 : Mem) : KX := (endK f76 m0)
def S76_0 (call : CL) (n : Nat) (m0 : Mem) (y0 y1 : AV) (m : Mem) : Rho := G76_0 call n m0 y0 y1 m
def d76_0 (call : CL) (n : Nat) (m0 : Mem) (y0 y1 : AV) (m : Mem) : Rho := evK call n b76_0 [(0, y0), (1, y1)] m (k76_0 call n m0) (x76_0 call n m0)
theorem l76_0 {call : CL} {n : Nat} {m0 : Mem} : d76_0 call n m0 = S76_0 call n m0 := by
  funext y0 y1 m
  have h : d76_0 call n m0 y0 y1 m = G76_0 call n m0 y0 y1 m := Eq.mp (by kernel_rfl) (g76_0 call n m0 y0 y1 m)
  exact h
def G76 (call : CL) (n : Nat) (m0 : Mem) (Q76_0 : Y2) (y0 y1 : AV) (m : Mem) : Rho :=
  binK .lss y1 (.int .i64 2) fun a0 =>
  condK a0
  (retK false false m0 [(.int .i64 9223372036854775807)] m)
  (Q76_0 y0 y1 m)
theorem g76 (call : CL) (n : Nat) (m0 : Mem) (b76_0 : C) (y0 y1 : AV) (m : Mem) : evK call n (c76 b76_0) [(0, y0), (1, y1)] m (fun e m => endK f76 m0 .nrm e m) (endK f76 m0) = G76 call n m0 (fun x0 x1 m => evK call n b76_0 [(0, x0), (1, x1)] m (fun e m => endK f76 m0 .nrm e m) (endK f76 m0)) y0 y1 m := by kernel_rfl
def S76 (call : CL) (n : Nat) (m0 : Mem) (y0 y1 : AV) : Rho := G76 call n m0 (S76_0 call n m0) y0 y1 { m0 with bad := none }
theorem s76 (call : CL) (n : Nat) (m0 : Mem) (y0 y1 : AV) : bodyK call n f76 [y0, y1] m0 = S76 call n m0 y0 y1 :=
  have h : bodyK call n f76 [y0, y1] m0 = G76 call n m0 (d76_0 call n m0) y0 y1 { m0 with bad := none } := Eq.mp (by kernel_rfl) (g76 call n m0 b76_0 y0 y1 { m0 with bad := none })
  by rw [l76_0] at h; exact h
def F76 : SF := fun call n vs m0 => unc vs fun x0 vs => unc vs fun x1 vs => unz vs (S76 call n m0 x0 x1)
theorem F76_ok {orc : List AV → Mem → Option (AV × Mem)} : SOk 76 { f76 with orc := orc } F76 := by
  intro call n vs m0 ho r h0
  simp only [F76] at h0
  obtain ⟨y0, v0, rfl, h1⟩ := unc_some h0
  obtain ⟨y1, v1, rfl, h2⟩ := unc_some h1
  obtain ⟨rfl, hz⟩ := unz_some h2
  exact bodyK_le ho rfl r (Eq.mp (by kernel_rfl) ((s76 call n m0 y0 y1).trans hz))

-- (*resolvent/pos.table).ways
def G77_1 (call : CL) (n : Nat) (m0 : Mem) (y0 y1 : AV) (m : Mem) : Rho :=
  nilK y0 fun a0 =>
  vK (aFieldAddr 0 1 a0) m fun a1 m2 =>
  loadK none a1 m2 fun a3 m4 =>
  binK .sub y1 (.int .i64 2) fun a5 =>
  vK (aIndexAddr m4 3 a3 a5) m4 fun a6 m7 =>
  vK (aFieldAddr 1 1 a6) m7 fun a8 m9 =>
  loadK none a8 m9 fun a10 m11 =>
  nilK y0 fun a12 =>
  vK (aFieldAddr 0 1 a12) m11 fun a13 m14 =>
  loadK none a13 m14 fun a15 m16 =>
  binK .sub y1 (.int .i64 2) fun a17 =>
  vK (aIndexAddr m16 3 a15 a17) m16 fun a18 m19 =>
  vK (aFieldAddr 2 1 a18) m19 fun a20 m21 =>
  loadK none a20 m21 fun a22 m23 =>
  retK false false m0 [a10, a22] m23
theorem g77_1 (call : CL) (n : Nat) (m0 : Mem) (y0 y1 : AV) (m : Mem) : evK call n b77_1 [(0, y0), (1, y1)] m (fun e m => endK f77 m0 .nrm e m) (endK f77 m0) = G77_1 call n m0 y0 y1 m := by kernel_rfl
def k77_1 (call : CL) (n : Nat) (m0 : Mem) : KN := (fun e m => endK f77 m0 .nrm e m)
def x77_1 (call : CL) (n : Nat) (m0 : Mem) : KX := (endK f77 m0)
def S77_1 (call : CL) (n : Nat) (m0 : Mem) (y0 y1 : AV) (m : Mem) : Rho := G77_1 call n m0 y0 y1 m
def d77_1 (call : CL) (n : Nat) (m0 : Mem) (y0 y1 : AV) (m : Mem) : Rho := evK call n b77_1 [(0, y0), (1, y1)] m (k77_1 call n m0) (x77_1 call n m0)
theorem l77_1 {call : CL} {n : Nat} {m0 : Mem} : d77_1 call n m0 = S77_1 call n m0 := by
  funext y0 y1 m
  have h : d77_1 call n m0 y0 y1 m = G77_1 call n m0 y0 y1 m := Eq.mp (by kernel_rfl) (g77_1 call n m0 y0 y1 m)
  exact h
def G77 (call : CL) (n : Nat) (m0 : Mem) (Q77_1 : Y2) (y0 y1 y2 : AV) (m : Mem) : Rho :=
  callK call (.func 76 [] []) false [y0, y1] m fun a0 m1 =>
  binK .neq a0 y2 fun a2 =>
  condK a2
  (retK false false m0 [y1, y1] m1)
  (Q77_1 y0 y1 m1)
theorem g77 (call : CL) (n : Nat) (m0 : Mem) (b77_1 : C) (y0 y1 y2 : AV) (m : Mem) : evK call n (c77 b77_1) [(0, y0), (1, y1), (2, y2)] m (fun e m => endK f77 m0 .nrm e m) (endK f77 m0) = G77 call n m0 (fun x0 x1 m => evK call n b77_1 [(0, x0), (1, x1)] m (fun e m => endK f77 m0 .nrm e m) (endK f77 m0)) y0 y1 y2 m := by kernel_rfl
def S77 (call : CL) (n : Nat) (m0 : Mem) (y0 y1 y2 : AV) : Rho := G77 call n m0 (S77_1 call n m0) y0 y1 y2 { m0 with bad := none }
theorem s77 (call : CL) (n : Nat) (m0 : Mem) (y0 y1 y2 : AV) : bodyK call n f77 [y0, y1, y2] m0 = S77 call n m0 y0 y1 y2 :=
  have h : bodyK call n f77 [y0, y1, y2] m0 = G77 call n m0 (d77_1 call n m0) y0 y1 y2 { m0 with bad := none } := Eq.mp (by kernel_rfl) (g77 call n m0 b77_1 y0 y1 y2 { m0 with bad := none })
  by rw [l77_1] at h; exact h
def F77 : SF := fun call n vs m0 => unc vs fun x0 vs => unc vs fun x1 vs => unc vs fun x2 vs => unz vs (S77 call n m0 x0 x1 x2)
theorem F77_ok {orc : List AV → Mem → Option (AV × Mem)} : SOk 77 { f77 with orc := orc } F77 := by
  intro call n vs m0 ho r h0
  simp only [F77] at h0
  obtain ⟨y0, v0, rfl, h1⟩ := unc_some h0
  obtain ⟨y1, v1, rfl, h2⟩ := unc_some h1
  obtain ⟨y2, v2, rfl, h3⟩ := unc_some h2
  obtain ⟨rfl, hz⟩ := unz_some h3
  exact bodyK_le ho rfl r (Eq.mp (by kernel_rfl) ((s77 call n m0 y0 y1 y2).trans hz))

-- resolvent/pos.bit
def G78_0 (call : CL) (n : Nat) (m0 : Mem) (m : Mem) : Rho :=
  retK false false m0 [(.int .i64 0)] m
theorem g78_0 (call : CL) (n : Nat) (m0 : Mem) (m : Mem) : evK call n b78_0 [] m (fun e m => endK f78 m0 .nrm e m) (endK f78 m0) = G78_0 call n m0 m := by kernel_rfl
def k78_0 (call : CL) (n : Nat) (m0 : Mem) : KN := (fun e m => endK f78 m0 .nrm e m)
def x78_0 (call : CL) (n : Nat) (m0 : Mem) : KX := (endK f78 m0)
def S78_0 (call : CL) (n : Nat) (m0 : Mem) (m : Mem) : Rho := G78_0 call n m0 m
def d78_0 (call : CL) (n : Nat) (m0 : Mem) (m : Mem) : Rho := evK call n b78_0 [] m (k78_0 call n m0) (x78_0 call n m0)
theorem l78_0 {call : CL} {n : Nat} {m0 : Mem} : d78_0 call n m0 = S78_0 call n m0 := by
  funext m
  have h : d78_0 call n m0 m = G78_0 call n m0 m := Eq.mp (by kernel_rfl) (g78_0 call n m0 m)
  exact h
def G78 (call : CL) (n : Nat) (m0 : Mem) (Q78_0 : Y0) (y0 : AV) (m : Mem) : Rho :=
  condK y0
  (retK false false m0 [(.int .i64 1)] m)
  (Q78_0 m)
theorem g78 (call : CL) (n : Nat) (m0 : Mem) (b78_0 : C) (y0 : AV) (m : Mem) : evK call n (c78 b78_0) [(0, y0)] m (fun e m => endK f78 m0 .nrm e m) (endK f78 m0) = G78 call n m0 (fun m => evK call n b78_0 [] m (fun e m => endK f78 m0 .nrm e m) (endK f78 m0)) y0 m := by kernel_rfl
def S78 (call : CL) (n : Nat) (m0 : Mem) (y0 : AV) : Rho := G78 call n m0 (S78_0 call n m0) y0 { m0 with bad := none }
theorem s78 (call : CL) (n : Nat) (m0 : Mem) (y0 : AV) : bodyK call n f78 [y0] m0 = S78 call n m0 y0 :=
  have h : bodyK call n f78 [y0] m0 = G78 call n m0 (d78_0 call n m0) y0 { m0 with bad := none } := Eq.mp (by kernel_rfl) (g78 call n m0 b78_0 y0 { m0 with bad := none })
  by rw [l78_0] at h; exact h
def F78 : SF := fun call n vs m0 => unc vs fun x0 vs => unz vs (S78 call n m0 x0)
theorem F78_ok {orc : List AV → Mem → Option (AV × Mem)} : SOk 78 { f78 with orc := orc } F78 := by
  intro call n vs m0 ho r h0
  simp only [F78] at h0
  obtain ⟨y0, v0, rfl, h1⟩ := unc_some h0
  obtain ⟨rfl, hz⟩ := unz_some h1
  exact bodyK_le ho rfl r (Eq.mp (by kernel_rfl) ((s78 call n m0 y0).trans hz))

-- slices.Index[[]int,int]
def G79_3 (call : CL) (n : Nat) (m0 : Mem) (m : Mem) : Rho :=
  retK false false m0 [(.int .i64 (-1))] m
theorem g79_3 (call : CL) (n : Nat) (m0 : Mem) (m : Mem) : evK call n b79_3 [] m (fun e m => endK f79 m0 .nrm e m) (endK f79 m0) = G79_3 call n m0 m := by kernel_rfl
def k79_3 (call : CL) (n : Nat) (m0 : Mem) : KN := (fun e m => endK f79 m0 .nrm e m)
def x79_3 (call : CL) (n : Nat) (m0 : Mem) : KX := (endK f79 m0)
def S79_3 (call : CL) (n : Nat) (m0 : Mem) (m : Mem) : Rho := G79_3 call n m0 m
def d79_3 (call : CL) (n : Nat) (m0 : Mem) (m : Mem) : Rho := evK call n b79_3 [] m (k79_3 call n m0) (x79_3 call n m0)
theorem l79_3 {call : CL} {n : Nat} {m0 : Mem} : d79_3 call n m0 = S79_3 call n m0 := by
  funext m
  have h : d79_3 call n m0 m = G79_3 call n m0 m := Eq.mp (by kernel_rfl) (g79_3 call n m0 m)
  exact h
def G79_0 (call : CL) (n : Nat) (kn : KN) (kx : KX) (y0 y1 y2 y3 : AV) (m : Mem) : Rho :=
  binK .add y3 (.int .i64 1) fun a0 =>
  kn [(0, y0), (1, y1), (7, y2), (8, a0)] m
theorem g79_0 (call : CL) (n : Nat) (kn : KN) (kx : KX) (y0 y1 y2 y3 : AV) (m : Mem) : evK call n b79_0 [(0, y0), (1, y1), (7, y2), (8, y3)] m kn kx = G79_0 call n kn kx y0 y1 y2 y3 m := by kernel_rfl
def k79_0 (call : CL) (n : Nat) (kn : KN) (kx : KX) : KN := kn
def x79_0 (call : CL) (n : Nat) (kn : KN) (kx : KX) : KX := kx
def S79_0 (call : CL) (n : Nat) (kn : KN) (kx : KX) (y0 y1 y2 y3 : AV) (m : Mem) : Rho := G79_0 call n kn kx y0 y1 y2 y3 m
def d79_0 (call : CL) (n : Nat) (kn : KN) (kx : KX) (y0 y1 y2 y3 : AV) (m : Mem) : Rho := evK call n b79_0 [(0, y0), (1, y1), (7, y2), (8, y3)] m (k79_0 call n kn kx) (x79_0 call n kn kx)
theorem l79_0 {call : CL} {n : Nat} {kn : KN} {kx : KX} : d79_0 call n kn kx = S79_0 call n kn kx := by
  funext y0 y1 y2 y3 m
  have h : d79_0 call n kn kx y0 y1 y2 y3 m = G79_0 call n kn kx y0 y1 y2 y3 m := Eq.mp (by kernel_rfl) (g79_0 call n kn kx y0 y1 y2 y3 m)
  exact h
def G79_1 (call : CL) (n : Nat) (kn : KN) (kx : KX) (Q79_0 : Y4) (y0 y1 y2 y3 : AV) (m : Mem) : Rho :=
  vK (aIndexAddr m 1 y0 y3) m fun a0 m1 =>
  loadK none a0 m1 fun a2 m3 =>
  binK .eql y1 a2 fun a4 =>
  condK a4
  (kx .ret [(4, y3)] m3)
  (Q79_0 y0 y1 y2 y3 m3)
theorem g79_1 (call : CL) (n : Nat) (kn : KN) (kx : KX) (b79_0 : C) (y0 y1 y2 y3 : AV) (m : Mem) : evK call n (c79_1 b79_0) [(0, y0), (1, y1), (7, y2), (8, y3)] m kn kx = G79_1 call n kn kx (fun x0 x1 x2 x3 m => evK call n b79_0 [(0, x0), (1, x1), (7, x2), (8, x3)] m kn kx) y0 y1 y2 y3 m := by kernel_rfl
def k79_1 (call : CL) (n : Nat) (kn : KN) (kx : KX) : KN := kn
def x79_1 (call : CL) (n : Nat) (kn : KN) (kx : KX) : KX := kx
def S79_1 (call : CL) (n : Nat) (kn : KN) (kx : KX) (y0 y1 y2 y3 : AV) (m : Mem) : Rho := G79_1 call n kn kx (S79_0 call n kn kx) y0 y1 y2 y3 m
def d79_1 (call : CL) (n : Nat) (kn : KN) (kx : KX) (y0 y1 y2 y3 : AV) (m : Mem) : Rho := evK call n b79_1 [(0, y0), (1, y1), (7, y2), (8, y3)] m (k79_1 call n kn kx) (x79_1 call n kn kx)
theorem l79_1 {call : CL} {n : Nat} {kn : KN} {kx : KX} : d79_1 call n kn kx = S79_1 call n kn kx := by
  funext y0 y1 y2 y3 m
  have h : d79_1 call n kn kx y0 y1 y2 y3 m = G79_1 call n kn kx (d79_0 call n kn kx) y0 y1 y2 y3 m := Eq.mp (by kernel_rfl) (g79_1 call n kn kx b79_0 y0 y1 y2 y3 m)
  rw [l79_0] at h; exact h
def G79_2 (call : CL) (n : Nat) (kn : KN) (kx : KX) (Q79_1 : Y4) (y0 y1 y2 y3 : AV) (m : Mem) : Rho :=
  binK .lss y3 y2 fun a0 =>
  condK a0
  (Q79_1 y0 y1 y2 y3 m)
  (kx (.ext 0) [(0, y0), (1, y1), (7, y2), (8, y3), (9, a0)] m)
theorem g79_2 (call : CL) (n : Nat) (kn : KN) (kx : KX) (b79_1 : C) (y0 y1 y2 y3 : AV) (m : Mem) : evK call n (c79_2 b79_1) [(0, y0), (1, y1), (7, y2), (8, y3)] m kn kx = G79_2 call n kn kx (fun x0 x1 x2 x3 m => evK call n b79_1 [(0, x0), (1, x1), (7, x2), (8, x3)] m kn kx) y0 y1 y2 y3 m := by kernel_rfl
def S79_2 (call : CL) (n : Nat) (kn : KN) (kx : KX) (y0 y1 y2 y3 : AV) (m : Mem) : Rho := G79_2 call n kn kx (S79_1 call n kn kx) y0 y1 y2 y3 m
def d79_2 (call : CL) (n : Nat) (kn : KN) (kx : KX) (y0 y1 y2 y3 : AV) (m : Mem) : Rho := evK call n b79_2 [(0, y0), (1, y1), (7, y2), (8, y3)] m kn kx
theorem l79_2 {call : CL} {n : Nat} : d79_2 call n = S79_2 call n := by
  funext kn kx y0 y1 y2 y3 m
  have h : d79_2 call n kn kx y0 y1 y2 y3 m = G79_2 call n kn kx (d79_1 call n kn kx) y0 y1 y2 y3 m := Eq.mp (by kernel_rfl) (g79_2 call n kn kx b79_1 y0 y1 y2 y3 m)
  rw [l79_1] at h; exact h
def G79 (call : CL) (n : Nat) (m0 : Mem) (B79_2 : KN → KX → Y4) (Q79_3 : Y0) (y0 y1 : AV) (m : Mem) : Rho :=
  vK (aLen m 1 y0) m fun a0 m1 =>
  loopV [0, 1, 7, 8] none (fun vs m kn kx => unc vs fun x0 vs => unc vs fun x1 vs => unc vs fun x2 vs => unc vs fun x3 vs => unz vs (B79_2 kn kx x0 x1 x2 x3 m)) (blkK 0 (fun e m => keepK e [] fun vs => unz vs (Q79_3 m)) (endK f79 m0)) n [y0, y1, a0, (.int .i64 0)] m1
theorem g79 (call : CL) (n : Nat) (m0 : Mem) (b79_2 : C) (b79_3 : C) (y0 y1 : AV) (m : Mem) : evK call n (c79 b79_2 b79_3) [(0, y0), (1, y1)] m (fun e m => endK f79 m0 .nrm e m) (endK f79 m0) = G79 call n m0 (fun kn kx x0 x1 x2 x3 m => evK call n b79_2 [(0, x0), (1, x1), (7, x2), (8, x3)] m kn kx) (fun m => evK call n b79_3 [] m (fun e m => endK f79 m0 .nrm e m) (endK f79 m0)) y0 y1 m := by kernel_rfl
def S79 (call : CL) (n : Nat) (m0 : Mem) (y0 y1 : AV) : Rho := G79 call n m0 (S79_2 call n) (S79_3 call n m0) y0 y1 { m0 with bad := none }
theorem s79 (call : CL) (n : Nat) (m0 : Mem) (y0 y1 : AV) : bodyK call n f79 [y0, y1] m0 = S79 call n m0 y0 y1 :=
  have h : bodyK call n f79 [y0, y1] m0 = G79 call n m0 (d79_2 call n) (d79_3 call n m0) y0 y1 { m0 with bad := none } := Eq.mp (by kernel_rfl) (g79 call n m0 b79_2 b79_3 y0 y1 { m0 with bad := none })
  by rw [l79_2, l79_3] at h; exact h
def F79 : SF := fun call n vs m0 => unc vs fun x0 vs => unc vs fun x1 vs => unz vs (S79 call n m0 x0 x1)
theorem F79_ok {orc : List AV → Mem → Option (AV × Mem)} : SOk 79 { f79 with orc := orc } F79 := by
  intro call n vs m0 ho r h0
  simp only [F79] at h0
  obtain ⟨y0, v0, rfl, h1⟩ := unc_some h0
  obtain ⟨y1, v1, rfl, h2⟩ := unc_some h1
  obtain ⟨rfl, hz⟩ := unz_some h2
  exact bodyK_le ho rfl r (Eq.mp (by kernel_rfl) ((s79 call n m0 y0 y1).trans hz))

-- (*resolvent/pos.table).take$1
def G80_0 (call : CL) (n : Nat) (m0 : Mem) (y0 y1 y2 y3 y4 : AV) (m : Mem) : Rho :=
  loadK none y2 m fun a0 m1 =>
  nilK a0 fun a2 =>
  vK (aFieldAddr 0 1 a2) m1 fun a3 m4 =>
  loadK none a3 m4 fun a5 m6 =>
  binK .sub y0 (.int .i64 2) fun a7 =>
  vK (aIndexAddr m6 3 a5 a7) m6 fun a8 m9 =>
  loadK (some 3) a8 m9 fun a10 m11 =>
  newK [(.int .i64 0), (.int .i64 0), (.int .i64 0)] m11 fun a12 m13 =>
  storeK 3 a12 a10 m13 fun a14 m15 =>
  loadK none y3 m15 fun a16 m17 =>
  vK (aFieldAddr 1 1 a12) m17 fun a18 m19 =>
  loadK none a18 m19 fun a20 m21 =>
  callK call a16 false [a20] m21 fun a22 m23 =>
  loadK none y3 m23 fun a24 m25 =>
  vK (aFieldAddr 2 1 a12) m25 fun a26 m27 =>
  loadK none a26 m27 fun a28 m29 =>
  callK call a24 false [a28] m29 fun a30 m31 =>
  vK (aFieldAddr 0 1 y4) m31 fun a32 m33 =>
  loadK none a32 m33 fun a34 m35 =>
  vK (aFieldAddr 0 1 a12) m35 fun a36 m37 =>
  loadK none a36 m37 fun a38 m39 =>
  buildK [(.int .i64 0), (.int .i64 0), (.int .i64 0)] [(0, 1, AV.untag1 a38), (1, 1, AV.untag1 a22), (2, 1, AV.untag1 a30)] fun a40 =>
  buildSliceK 3 [(.int .i64 0), (.int .i64 0), (.int .i64 0)] 1 false [(0 * 3, 3, AV.untag a40)] m39 fun a41 m42 =>
  appendK 3 24 0 a34 a41 m42 fun a43 m44 =>
  vK (aFieldAddr 0 1 y4) m44 fun a45 m46 =>
  storeK 1 a45 a43 m46 fun a47 m48 =>
  loadK none y1 m48 fun a49 m50 =>
  vK (aFieldAddr 0 1 y4) m50 fun a51 m52 =>
  loadK none a51 m52 fun a53 m54 =>
  vK (aLen m54 1 a53) m54 fun a55 m56 =>
  binK .add a55 (.int .i64 1) fun a57 =>
  mapUpdateK ⟨[.i], false⟩ a49 y0 a57 m56 fun a58 m59 =>
  loadK none y1 m59 fun a60 m61 =>
  lookupK ⟨[.i], false⟩ (.int .i64 0) false a60 y0 m61 fun a62 =>
  retK false false m0 [a62] m61
theorem g80_0 (call : CL) (n : Nat) (m0 : Mem) (y0 y1 y2 y3 y4 : AV) (m : Mem) : evK call n b80_0 [(0, y0), (1, y1), (2, y2), (3, y3), (4, y4)] m (fun e m => endK f80 m0 .nrm e m) (endK f80 m0) = G80_0 call n m0 y0 y1 y2 y3 y4 m := by kernel_rfl
def k80_0 (call : CL) (n : Nat) (m0 : Mem) : KN := (fun e m => endK f80 m0 .nrm e m)
def x80_0 (call : CL) (n : Nat) (m0 : Mem) : KX := (endK f80 m0)
def S80_0 (call : CL) (n : Nat) (m0 : Mem) (y0 y1 y2 y3 y4 : AV) (m : Mem) : Rho := G80_0 call n m0 y0 y1 y2 y3 y4 m
def d80_0 (call : CL) (n : Nat) (m0 : Mem) (y0 y1 y2 y3 y4 : AV) (m : Mem) : Rho := evK call n b80_0 [(0, y0), (1, y1), (2, y2), (3, y3), (4, y4)] m (k80_0 call n m0) (x80_0 call n m0)
theorem l80_0 {call : CL} {n : Nat} {m0 : Mem} : d80_0 call n m0 = S80_0 call n m0 := by
  funext y0 y1 y2 y3 y4 m
  have h : d80_0 call n m0 y0 y1 y2 y3 y4 m = G80_0 call n m0 y0 y1 y2 y3 y4 m := Eq.mp (by kernel_rfl) (g80_0 call n m0 y0 y1 y2 y3 y4 m)
  exact h
def G80 (call : CL) (n : Nat) (m0 : Mem) (Q80_0 : Y5) (y0 y1 y2 y3 y4 : AV) (m : Mem) : Rho :=
  loadK none y1 m fun a0 m1 =>
  lookupK ⟨[.i], false⟩ (.int .i64 0) true a0 y0 m1 fun a2 =>
  extractK a2 0 fun a3 =>
  extractK a2 1 fun a4 =>
  condK a4
  (retK false false m0 [a3] m1)
  (Q80_0 y0 y1 y2 y3 y4 m1)
theorem g80 (call : CL) (n : Nat) (m0 : Mem) (b80_0 : C) (y0 y1 y2 y3 y4 : AV) (m : Mem) : evK call n (c80 b80_0) [(0, y0), (1, y1), (2, y2), (3, y3), (4, y4)] m (fun e m => endK f80 m0 .nrm e m) (endK f80 m0) = G80 call n m0 (fun x0 x1 x2 x3 x4 m => evK call n b80_0 [(0, x0), (1, x1), (2, x2), (3, x3), (4, x4)] m (fun e m => endK f80 m0 .nrm e m) (endK f80 m0)) y0 y1 y2 y3 y4 m := by kernel_rfl
def S80 (call : CL) (n : Nat) (m0 : Mem) (y0 y1 y2 y3 y4 : AV) : Rho := G80 call n m0 (S80_0 call n m0) y0 y1 y2 y3 y4 { m0 with bad := none }
theorem s80 (call : CL) (n : Nat) (m0 : Mem) (y0 y1 y2 y3 y4 : AV) : bodyK call n f80 [y0, y1, y2, y3, y4] m0 = S80 call n m0 y0 y1 y2 y3 y4 :=
  have h : bodyK call n f80 [y0, y1, y2, y3, y4] m0 = G80 call n m0 (d80_0 call n m0) y0 y1 y2 y3 y4 { m0 with bad := none } := Eq.mp (by kernel_rfl) (g80 call n m0 b80_0 y0 y1 y2 y3 y4 { m0 with bad := none })
  by rw [l80_0] at h; exact h
def F80 : SF := fun call n vs m0 => unc vs fun x0 vs => unc vs fun x1 vs => unc vs fun x2 vs => unc vs fun x3 vs => unc vs fun x4 vs => unz vs (S80 call n m0 x0 x1 x2 x3 x4)
theorem F80_ok {orc : List AV → Mem → Option (AV × Mem)} : SOk 80 { f80 with orc := orc } F80 := by
  intro call n vs m0 ho r h0
  simp only [F80] at h0
  obtain ⟨y0, v0, rfl, h1⟩ := unc_some h0
  obtain ⟨y1, v1, rfl, h2⟩ := unc_some h1
  obtain ⟨y2, v2, rfl, h3⟩ := unc_some h2
  obtain ⟨y3, v3, rfl, h4⟩ := unc_some h3
  obtain ⟨y4, v4, rfl, h5⟩ := unc_some h4
  obtain ⟨rfl, hz⟩ := unz_some h5
  exact bodyK_le ho rfl r (Eq.mp (by kernel_rfl) ((s80 call n m0 y0 y1 y2 y3 y4).trans hz))

end
end Go.Proofs.P16
