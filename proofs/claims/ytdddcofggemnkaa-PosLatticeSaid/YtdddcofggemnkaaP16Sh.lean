import Derived.Test.YtdddcofggemnkaaP16ShA
namespace Go.Proofs.P16
set_option linter.all false
open Go Go.Am
noncomputable section
-- resolvent/pos.Rename
def G26_7 (call : CL) (n : Nat) (m0 : Mem) (y0 y1 y2 : AV) (m : Mem) : Rho :=
  vK (aLen m 1 y2) m fun a0 m1 =>
  binK .sub a0 (.int .i64 1) fun a2 =>
  vK (aIndexAddr m1 1 y2 a2) m1 fun a3 m4 =>
  loadK none a3 m4 fun a5 m6 =>
  callK call (.func 51 [] []) false [y1, a5] m6 fun a7 m8 =>
  storeK 2 y0 a7 m8 fun a9 m10 =>
  loadK (some 2) y0 m10 fun a11 _ =>
  retK false false m0 [a11] m10
theorem g26_7 (call : CL) (n : Nat) (m0 : Mem) (y0 y1 y2 : AV) (m : Mem) : evK call n b26_7 [(4, y0), (8, y1), (9, y2)] m (fun e m => endK f26 m0 .nrm e m) (endK f26 m0) = G26_7 call n m0 y0 y1 y2 m := by kernel_rfl
def k26_7 (call : CL) (n : Nat) (m0 : Mem) : KN := (fun e m => endK f26 m0 .nrm e m)
def x26_7 (call : CL) (n : Nat) (m0 : Mem) : KX := (endK f26 m0)
def S26_7 (call : CL) (n : Nat) (m0 : Mem) (y0 y1 y2 : AV) (m : Mem) : Rho := G26_7 call n m0 y0 y1 y2 m
def d26_7 (call : CL) (n : Nat) (m0 : Mem) (y0 y1 y2 : AV) (m : Mem) : Rho := evK call n b26_7 [(4, y0), (8, y1), (9, y2)] m (k26_7 call n m0) (x26_7 call n m0)
theorem l26_7 {call : CL} {n : Nat} {m0 : Mem} : d26_7 call n m0 = S26_7 call n m0 := by
  funext y0 y1 y2 m
  have h : d26_7 call n m0 y0 y1 y2 m = G26_7 call n m0 y0 y1 y2 m := Eq.mp (by kernel_rfl) (g26_7 call n m0 y0 y1 y2 m)
  exact h
def G26_8 (call : CL) (n : Nat) (m0 : Mem) (Q26_7 : Y3) (y0 y1 y2 y3 : AV) (m : Mem) : Rho :=
  vK (aFieldAddr 0 1 y0) m fun a0 m1 =>
  loadK none a0 m1 fun a2 m3 =>
  vK (aLen m3 1 a2) m3 fun a4 m5 =>
  binK .eql a4 (.int .i64 0) fun a6 =>
  condK a6
  (loadK (some 2) y0 m5 fun a7 m8 =>
  storeK 2 y1 a7 m8 fun a9 m10 =>
  loadK (some 2) y1 m10 fun a11 _ =>
  retK false false m0 [a11] m10)
  (Q26_7 y1 y2 y3 m5)
theorem g26_8 (call : CL) (n : Nat) (m0 : Mem) (b26_7 : C) (y0 y1 y2 y3 : AV) (m : Mem) : evK call n (c26_8 b26_7) [(2, y0), (4, y1), (8, y2), (9, y3)] m (fun e m => endK f26 m0 .nrm e m) (endK f26 m0) = G26_8 call n m0 (fun x0 x1 x2 m => evK call n b26_7 [(4, x0), (8, x1), (9, x2)] m (fun e m => endK f26 m0 .nrm e m) (endK f26 m0)) y0 y1 y2 y3 m := by kernel_rfl
def k26_8 (call : CL) (n : Nat) (m0 : Mem) : KN := (fun e m => endK f26 m0 .nrm e m)
def x26_8 (call : CL) (n : Nat) (m0 : Mem) : KX := (endK f26 m0)
def S26_8 (call : CL) (n : Nat) (m0 : Mem) (y0 y1 y2 y3 : AV) (m : Mem) : Rho := G26_8 call n m0 (S26_7 call n m0) y0 y1 y2 y3 m
def d26_8 (call : CL) (n : Nat) (m0 : Mem) (y0 y1 y2 y3 : AV) (m : Mem) : Rho := evK call n b26_8 [(2, y0), (4, y1), (8, y2), (9, y3)] m (k26_8 call n m0) (x26_8 call n m0)
theorem l26_8 {call : CL} {n : Nat} {m0 : Mem} : d26_8 call n m0 = S26_8 call n m0 := by
  funext y0 y1 y2 y3 m
  have h : d26_8 call n m0 y0 y1 y2 y3 m = G26_8 call n m0 (d26_7 call n m0) y0 y1 y2 y3 m := Eq.mp (by kernel_rfl) (g26_8 call n m0 b26_7 y0 y1 y2 y3 m)
  rw [l26_7] at h; exact h
def G26_5 (call : CL) (n : Nat) (kn : KN) (kx : KX) (y0 y1 y2 y3 y4 y5 y6 y7 : AV) (m : Mem) : Rho :=
  vK (aIndexAddr m 3 y5 y7) m fun a0 m1 =>
  loadK (some 3) a0 m1 fun a2 m3 =>
  newK [(.int .i64 0), (.int .i64 0), (.int .i64 0)] m3 fun a4 m5 =>
  storeK 3 a4 a2 m5 fun a6 m7 =>
  vK (aFieldAddr 0 1 a4) m7 fun a8 m9 =>
  loadK none a8 m9 fun a10 m11 =>
  vK (aIndexAddr m11 1 y0 a10) m11 fun a12 m13 =>
  loadK none a12 m13 fun a14 m15 =>
  callK call (.func 25 [] []) false [a14] m15 fun a16 m17 =>
  callK call (.func 48 [] []) false [y3, a16] m17 fun a18 m19 =>
  vK (aFieldAddr 2 1 a4) m19 fun a20 m21 =>
  loadK none a20 m21 fun a22 m23 =>
  vK (aIndexAddr m23 1 y4 a22) m23 fun a24 m25 =>
  loadK none a24 m25 fun a26 m27 =>
  callK call (.func 47 [] []) false [y3, a18, a26, (.func 45 [] [])] m27 fun a28 m29 =>
  callK call (.func 53 [] []) false [y3, a18] m29 fun a30 m31 =>
  vK (aFieldAddr 1 1 a4) m31 fun a32 m33 =>
  loadK none a32 m33 fun a34 m35 =>
  vK (aIndexAddr m35 1 y4 a34) m35 fun a36 m37 =>
  loadK none a36 m37 fun a38 m39 =>
  callK call (.func 47 [] []) false [y3, a30, a38, (.func 45 [] [])] m39 fun a40 m41 =>
  cond (stayK [m29, m31, m41] [(fun m => m.load none a32, a34, 0, 2, true), (fun m => m.load none a36, a38, 0, 2, true)]) (callK call (.func 47 [] []) false [y3, a28, a40, (.func 52 [] [])] m41 fun a42 m43 =>
  buildSliceK 1 [(.int .i64 0)] 1 false [(0 * 1, 1, AV.untag a42)] m43 fun a44 m45 =>
  appendK 1 8 0 y4 a44 m45 fun a46 m47 =>
  binK .add y7 (.int .i64 1) fun a48 =>
  kn [(1, y0), (2, y1), (4, y2), (8, y3), (9, a46), (52, y5), (53, y6), (54, a48)] m47) none
theorem g26_5 (call : CL) (n : Nat) (kn : KN) (kx : KX) (y0 y1 y2 y3 y4 y5 y6 y7 : AV) (m : Mem) : evK call n b26_5 [(1, y0), (2, y1), (4, y2), (8, y3), (9, y4), (52, y5), (53, y6), (54, y7)] m kn kx = G26_5 call n kn kx y0 y1 y2 y3 y4 y5 y6 y7 m := by kernel_rfl
def k26_5 (call : CL) (n : Nat) (kn : KN) (kx : KX) : KN := kn
def x26_5 (call : CL) (n : Nat) (kn : KN) (kx : KX) : KX := kx
def S26_5 (call : CL) (n : Nat) (kn : KN) (kx : KX) (y0 y1 y2 y3 y4 y5 y6 y7 : AV) (m : Mem) : Rho := G26_5 call n kn kx y0 y1 y2 y3 y4 y5 y6 y7 m
def d26_5 (call : CL) (n : Nat) (kn : KN) (kx : KX) (y0 y1 y2 y3 y4 y5 y6 y7 : AV) (m : Mem) : Rho := evK call n b26_5 [(1, y0), (2, y1), (4, y2), (8, y3), (9, y4), (52, y5), (53, y6), (54, y7)] m (k26_5 call n kn kx) (x26_5 call n kn kx)
theorem l26_5 {call : CL} {n : Nat} {kn : KN} {kx : KX} : d26_5 call n kn kx = S26_5 call n kn kx := by
  funext y0 y1 y2 y3 y4 y5 y6 y7 m
  have h : d26_5 call n kn kx y0 y1 y2 y3 y4 y5 y6 y7 m = G26_5 call n kn kx y0 y1 y2 y3 y4 y5 y6 y7 m := Eq.mp (by kernel_rfl) (g26_5 call n kn kx y0 y1 y2 y3 y4 y5 y6 y7 m)
  exact h
def G26_6 (call : CL) (n : Nat) (kn : KN) (kx : KX) (Q26_5 : Y8) (y0 y1 y2 y3 y4 y5 y6 y7 : AV) (m : Mem) : Rho :=
  binK .lss y7 y6 fun a0 =>
  condK a0
  (Q26_5 y0 y1 y2 y3 y4 y5 y6 y7 m)
  (kx (.ext 2) [(1, y0), (2, y1), (4, y2), (8, y3), (9, y4), (52, y5), (53, y6), (54, y7), (55, a0)] m)
theorem g26_6 (call : CL) (n : Nat) (kn : KN) (kx : KX) (b26_5 : C) (y0 y1 y2 y3 y4 y5 y6 y7 : AV) (m : Mem) : evK call n (c26_6 b26_5) [(1, y0), (2, y1), (4, y2), (8, y3), (9, y4), (52, y5), (53, y6), (54, y7)] m kn kx = G26_6 call n kn kx (fun x0 x1 x2 x3 x4 x5 x6 x7 m => evK call n b26_5 [(1, x0), (2, x1), (4, x2), (8, x3), (9, x4), (52, x5), (53, x6), (54, x7)] m kn kx) y0 y1 y2 y3 y4 y5 y6 y7 m := by kernel_rfl
def S26_6 (call : CL) (n : Nat) (kn : KN) (kx : KX) (y0 y1 y2 y3 y4 y5 y6 y7 : AV) (m : Mem) : Rho := G26_6 call n kn kx (S26_5 call n kn kx) y0 y1 y2 y3 y4 y5 y6 y7 m
def d26_6 (call : CL) (n : Nat) (kn : KN) (kx : KX) (y0 y1 y2 y3 y4 y5 y6 y7 : AV) (m : Mem) : Rho := evK call n b26_6 [(1, y0), (2, y1), (4, y2), (8, y3), (9, y4), (52, y5), (53, y6), (54, y7)] m kn kx
theorem l26_6 {call : CL} {n : Nat} : d26_6 call n = S26_6 call n := by
  funext kn kx y0 y1 y2 y3 y4 y5 y6 y7 m
  have h : d26_6 call n kn kx y0 y1 y2 y3 y4 y5 y6 y7 m = G26_6 call n kn kx (d26_5 call n kn kx) y0 y1 y2 y3 y4 y5 y6 y7 m := Eq.mp (by kernel_rfl) (g26_6 call n kn kx b26_5 y0 y1 y2 y3 y4 y5 y6 y7 m)
  rw [l26_5] at h; exact h
def G26_9 (call : CL) (n : Nat) (m0 : Mem) (B26_6 : KN → KX → Y8) (Q26_8 : Y4) (y0 y1 y2 : AV) (m : Mem) : Rho :=
  callK call (.func 46 [] []) false [] m fun a0 m1 =>
  buildSliceK 1 [(.int .i64 0)] 2 false [(0 * 1, 1, AV.untag (.int .i64 0)), (1 * 1, 1, AV.untag (.int .i64 1))] m1 fun a2 m3 =>
  vK (aFieldAddr 0 1 y1) m3 fun a4 m5 =>
  loadK none a4 m5 fun a6 m7 =>
  vK (aLen m7 1 a6) m7 fun a8 m9 =>
  loopV [1, 2, 4, 8, 9, 52, 53, 54] none (fun vs m kn kx => unc vs fun x0 vs => unc vs fun x1 vs => unc vs fun x2 vs => unc vs fun x3 vs => unc vs fun x4 vs => unc vs fun x5 vs => unc vs fun x6 vs => unc vs fun x7 vs => unz vs (B26_6 kn kx x0 x1 x2 x3 x4 x5 x6 x7 m)) (blkK 2 (fun e m => keepK e [2, 4, 8, 9] fun vs => unc vs fun x0 vs => unc vs fun x1 vs => unc vs fun x2 vs => unc vs fun x3 vs => unz vs (Q26_8 x0 x1 x2 x3 m)) (endK f26 m0)) n [y0, y1, y2, a0, a2, a6, a8, (.int .i64 0)] m9
theorem g26_9 (call : CL) (n : Nat) (m0 : Mem) (b26_6 : C) (b26_8 : C) (y0 y1 y2 : AV) (m : Mem) : evK call n (c26_9 b26_6 b26_8) [(1, y0), (2, y1), (4, y2)] m (fun e m => endK f26 m0 .nrm e m) (endK f26 m0) = G26_9 call n m0 (fun kn kx x0 x1 x2 x3 x4 x5 x6 x7 m => evK call n b26_6 [(1, x0), (2, x1), (4, x2), (8, x3), (9, x4), (52, x5), (53, x6), (54, x7)] m kn kx) (fun x0 x1 x2 x3 m => evK call n b26_8 [(2, x0), (4, x1), (8, x2), (9, x3)] m (fun e m => endK f26 m0 .nrm e m) (endK f26 m0)) y0 y1 y2 m := by kernel_rfl
def k26_9 (call : CL) (n : Nat) (m0 : Mem) : KN := (fun e m => endK f26 m0 .nrm e m)
def x26_9 (call : CL) (n : Nat) (m0 : Mem) : KX := (endK f26 m0)
def S26_9 (call : CL) (n : Nat) (m0 : Mem) (y0 y1 y2 : AV) (m : Mem) : Rho := G26_9 call n m0 (S26_6 call n) (S26_8 call n m0) y0 y1 y2 m
def d26_9 (call : CL) (n : Nat) (m0 : Mem) (y0 y1 y2 : AV) (m : Mem) : Rho := evK call n b26_9 [(1, y0), (2, y1), (4, y2)] m (k26_9 call n m0) (x26_9 call n m0)
theorem l26_9 {call : CL} {n : Nat} {m0 : Mem} : d26_9 call n m0 = S26_9 call n m0 := by
  funext y0 y1 y2 m
  have h : d26_9 call n m0 y0 y1 y2 m = G26_9 call n m0 (d26_6 call n) (d26_8 call n m0) y0 y1 y2 m := Eq.mp (by kernel_rfl) (g26_9 call n m0 b26_6 b26_8 y0 y1 y2 m)
  rw [l26_6, l26_8] at h; exact h
def G26_1 (call : CL) (n : Nat) (kn : KN) (kx : KX) (y0 y1 y2 y3 y4 y5 y6 : AV) (m : Mem) : Rho :=
  binK .add y6 (.int .i64 1) fun a0 =>
  kn [(1, y0), (2, y1), (4, y2), (5, y3), (17, y4), (18, y5), (19, a0)] m
theorem g26_1 (call : CL) (n : Nat) (kn : KN) (kx : KX) (y0 y1 y2 y3 y4 y5 y6 : AV) (m : Mem) : evK call n b26_1 [(1, y0), (2, y1), (4, y2), (5, y3), (17, y4), (18, y5), (19, y6)] m kn kx = G26_1 call n kn kx y0 y1 y2 y3 y4 y5 y6 m := by kernel_rfl
def k26_1 (call : CL) (n : Nat) (kn : KN) (kx : KX) : KN := kn
def x26_1 (call : CL) (n : Nat) (kn : KN) (kx : KX) : KX := kx
def S26_1 (call : CL) (n : Nat) (kn : KN) (kx : KX) (y0 y1 y2 y3 y4 y5 y6 : AV) (m : Mem) : Rho := G26_1 call n kn kx y0 y1 y2 y3 y4 y5 y6 m
def d26_1 (call : CL) (n : Nat) (kn : KN) (kx : KX) (y0 y1 y2 y3 y4 y5 y6 : AV) (m : Mem) : Rho := evK call n b26_1 [(1, y0), (2, y1), (4, y2), (5, y3), (17, y4), (18, y5), (19, y6)] m (k26_1 call n kn kx) (x26_1 call n kn kx)
theorem l26_1 {call : CL} {n : Nat} {kn : KN} {kx : KX} : d26_1 call n kn kx = S26_1 call n kn kx := by
  funext y0 y1 y2 y3 y4 y5 y6 m
  have h : d26_1 call n kn kx y0 y1 y2 y3 y4 y5 y6 m = G26_1 call n kn kx y0 y1 y2 y3 y4 y5 y6 m := Eq.mp (by kernel_rfl) (g26_1 call n kn kx y0 y1 y2 y3 y4 y5 y6 m)
  exact h
def G26_0 (call : CL) (n : Nat) (kn : KN) (kx : KX) (Q26_1 : Y7) (y0 y1 y2 y3 y4 y5 y6 y7 : AV) (m : Mem) : Rho :=
  vK (aIndexAddr m 1 y0 y4) m fun a0 m1 =>
  loadK none a0 m1 fun a2 m3 =>
  mapUpdateK ⟨[.i], false⟩ y3 a2 (.bool true) m3 fun a4 m5 =>
  Q26_1 y0 y1 y2 y3 y5 y6 y7 m5
theorem g26_0 (call : CL) (n : Nat) (kn : KN) (kx : KX) (b26_1 : C) (k26_1 : KN) (x26_1 : KX) (y0 y1 y2 y3 y4 y5 y6 y7 : AV) (m : Mem) : evK call n b26_0 [(1, y0), (2, y1), (4, y2), (5, y3), (7, y4), (17, y5), (18, y6), (19, y7)] m (jn call n [1, 2, 4, 5, 17, 18, 19] b26_1 k26_1 x26_1) (blkK 1 (jn call n [1, 2, 4, 5, 17, 18, 19] b26_1 k26_1 x26_1) kx) = G26_0 call n kn kx (fun x0 x1 x2 x3 x4 x5 x6 m => evK call n b26_1 [(1, x0), (2, x1), (4, x2), (5, x3), (17, x4), (18, x5), (19, x6)] m k26_1 x26_1) y0 y1 y2 y3 y4 y5 y6 y7 m := by kernel_rfl
def k26_0 (call : CL) (n : Nat) (kn : KN) (kx : KX) : KN := (jn call n [1, 2, 4, 5, 17, 18, 19] b26_1 (k26_1 call n kn kx) (x26_1 call n kn kx))
def x26_0 (call : CL) (n : Nat) (kn : KN) (kx : KX) : KX := (blkK 1 (jn call n [1, 2, 4, 5, 17, 18, 19] b26_1 (k26_1 call n kn kx) (x26_1 call n kn kx)) kx)
def S26_0 (call : CL) (n : Nat) (kn : KN) (kx : KX) (y0 y1 y2 y3 y4 y5 y6 y7 : AV) (m : Mem) : Rho := G26_0 call n kn kx (S26_1 call n kn kx) y0 y1 y2 y3 y4 y5 y6 y7 m
def d26_0 (call : CL) (n : Nat) (kn : KN) (kx : KX) (y0 y1 y2 y3 y4 y5 y6 y7 : AV) (m : Mem) : Rho := evK call n b26_0 [(1, y0), (2, y1), (4, y2), (5, y3), (7, y4), (17, y5), (18, y6), (19, y7)] m (k26_0 call n kn kx) (x26_0 call n kn kx)
theorem l26_0 {call : CL} {n : Nat} {kn : KN} {kx : KX} : d26_0 call n kn kx = S26_0 call n kn kx := by
  funext y0 y1 y2 y3 y4 y5 y6 y7 m
  have h : d26_0 call n kn kx y0 y1 y2 y3 y4 y5 y6 y7 m = G26_0 call n kn kx (d26_1 call n kn kx) y0 y1 y2 y3 y4 y5 y6 y7 m := Eq.mp (by kernel_rfl) (g26_0 call n kn kx b26_1 (k26_1 call n kn kx) (x26_1 call n kn kx) y0 y1 y2 y3 y4 y5 y6 y7 m)
  rw [l26_1] at h; exact h
def G26_2 (call : CL) (n : Nat) (kn : KN) (kx : KX) (Q26_0 : Y8) (y0 y1 y2 y3 y4 y5 y6 : AV) (m : Mem) : Rho :=
  vK (aIndexAddr m 1 y4 y6) m fun a0 m1 =>
  loadK none a0 m1 fun a2 m3 =>
  vK (aLen m3 1 y0) m3 fun a4 m5 =>
  binK .geq a2 a4 fun a6 =>
  gK a6 false (fun k => k y0 m5) m5 fun a7 m8 =>
  gK a6 false (fun k => k a2 m8) m8 fun a9 m10 =>
  gK a6 false (fun k => vK (aIndexAddr m10 1 a7 a9) m10 fun a11 m12 =>
  k a11 m12) m10 fun a13 m14 =>
  gK a6 false (fun k => loadK none a13 m14 fun a15 m16 =>
  k a15 m16) m14 fun a17 m18 =>
  gK a6 false (fun k => binK .lss a17 (.int .i64 0) fun a19 =>
  k a19 m18) m18 fun a20 m21 =>
  pickK a6 (some (.bool true)) (some a20) fun a22 =>
  gK a22 false (fun k => k y3 m21) m21 fun a23 m24 =>
  gK a22 false (fun k => k y0 m24) m24 fun a25 m26 =>
  gK a22 false (fun k => k a2 m26) m26 fun a27 m28 =>
  gK a22 false (fun k => vK (aIndexAddr m28 1 a25 a27) m28 fun a29 m30 =>
  k a29 m30) m28 fun a31 m32 =>
  gK a22 false (fun k => loadK none a31 m32 fun a33 m34 =>
  k a33 m34) m32 fun a35 m36 =>
  gK a22 false (fun k => lookupK ⟨[.i], false⟩ (.bool false) false a23 a35 m36 fun a37 =>
  k a37 m36) m36 fun a38 m39 =>
  pickK a22 (some (.bool true)) (some a38) fun a40 =>
  condK a40
  (callK call (.func 10 [] []) false [(.bool true)] m39 fun a41 m42 =>
  storeK 2 y2 a41 m42 fun a43 m44 =>
  kx .ret [(4, y2)] m44)
  (Q26_0 y0 y1 y2 y3 a2 y4 y5 y6 m39)
theorem g26_2 (call : CL) (n : Nat) (kn : KN) (kx : KX) (b26_0 : C) (b26_1 : C) (y0 y1 y2 y3 y4 y5 y6 : AV) (m : Mem) : evK call n (c26_2 b26_0 b26_1) [(1, y0), (2, y1), (4, y2), (5, y3), (17, y4), (18, y5), (19, y6)] m kn kx = G26_2 call n kn kx (fun x0 x1 x2 x3 x4 x5 x6 x7 m => evK call n b26_0 [(1, x0), (2, x1), (4, x2), (5, x3), (7, x4), (17, x5), (18, x6), (19, x7)] m (jn call n [1, 2, 4, 5, 17, 18, 19] b26_1 kn kx) (blkK 1 (jn call n [1, 2, 4, 5, 17, 18, 19] b26_1 kn kx) kx)) y0 y1 y2 y3 y4 y5 y6 m := by kernel_rfl
def k26_2 (call : CL) (n : Nat) (kn : KN) (kx : KX) : KN := kn
def x26_2 (call : CL) (n : Nat) (kn : KN) (kx : KX) : KX := kx
def S26_2 (call : CL) (n : Nat) (kn : KN) (kx : KX) (y0 y1 y2 y3 y4 y5 y6 : AV) (m : Mem) : Rho := G26_2 call n kn kx (S26_0 call n kn kx) y0 y1 y2 y3 y4 y5 y6 m
def d26_2 (call : CL) (n : Nat) (kn : KN) (kx : KX) (y0 y1 y2 y3 y4 y5 y6 : AV) (m : Mem) : Rho := evK call n b26_2 [(1, y0), (2, y1), (4, y2), (5, y3), (17, y4), (18, y5), (19, y6)] m (k26_2 call n kn kx) (x26_2 call n kn kx)
theorem l26_2 {call : CL} {n : Nat} {kn : KN} {kx : KX} : d26_2 call n kn kx = S26_2 call n kn kx := by
  funext y0 y1 y2 y3 y4 y5 y6 m
  have h : d26_2 call n kn kx y0 y1 y2 y3 y4 y5 y6 m = G26_2 call n kn kx (d26_0 call n kn kx) y0 y1 y2 y3 y4 y5 y6 m := Eq.mp (by kernel_rfl) (g26_2 call n kn kx b26_0 b26_1 y0 y1 y2 y3 y4 y5 y6 m)
  rw [l26_0] at h; exact h
def G26_3 (call : CL) (n : Nat) (kn : KN) (kx : KX) (Q26_2 : Y7) (y0 y1 y2 y3 y4 y5 y6 : AV) (m : Mem) : Rho :=
  binK .lss y6 y5 fun a0 =>
  condK a0
  (Q26_2 y0 y1 y2 y3 y4 y5 y6 m)
  (kx (.ext 0) [(1, y0), (2, y1), (4, y2), (5, y3), (17, y4), (18, y5), (19, y6), (20, a0)] m)
theorem g26_3 (call : CL) (n : Nat) (kn : KN) (kx : KX) (b26_2 : C) (y0 y1 y2 y3 y4 y5 y6 : AV) (m : Mem) : evK call n (c26_3 b26_2) [(1, y0), (2, y1), (4, y2), (5, y3), (17, y4), (18, y5), (19, y6)] m kn kx = G26_3 call n kn kx (fun x0 x1 x2 x3 x4 x5 x6 m => evK call n b26_2 [(1, x0), (2, x1), (4, x2), (5, x3), (17, x4), (18, x5), (19, x6)] m kn kx) y0 y1 y2 y3 y4 y5 y6 m := by kernel_rfl
def S26_3 (call : CL) (n : Nat) (kn : KN) (kx : KX) (y0 y1 y2 y3 y4 y5 y6 : AV) (m : Mem) : Rho := G26_3 call n kn kx (S26_2 call n kn kx) y0 y1 y2 y3 y4 y5 y6 m
def d26_3 (call : CL) (n : Nat) (kn : KN) (kx : KX) (y0 y1 y2 y3 y4 y5 y6 : AV) (m : Mem) : Rho := evK call n b26_3 [(1, y0), (2, y1), (4, y2), (5, y3), (17, y4), (18, y5), (19, y6)] m kn kx
theorem l26_3 {call : CL} {n : Nat} : d26_3 call n = S26_3 call n := by
  funext kn kx y0 y1 y2 y3 y4 y5 y6 m
  have h : d26_3 call n kn kx y0 y1 y2 y3 y4 y5 y6 m = G26_3 call n kn kx (d26_2 call n kn kx) y0 y1 y2 y3 y4 y5 y6 m := Eq.mp (by kernel_rfl) (g26_3 call n kn kx b26_2 y0 y1 y2 y3 y4 y5 y6 m)
  rw [l26_2] at h; exact h
def G26 (call : CL) (n : Nat) (m0 : Mem) (B26_3 : KN → KX → Y7) (Q26_9 : Y3) (y0 y1 : AV) (m : Mem) : Rho :=
  boxK y0 m fun a0 m1 =>
  newK [(.list .full 0 []), (.bool false)] m1 fun a2 m3 =>
  makeMapK m3 fun a4 m5 =>
  loadK (some 2) a0 m5 fun a6 m7 =>
  callK call (.func 17 [] []) false [a6] m7 fun a8 m9 =>
  vK (aLen m9 1 a8) m9 fun a10 m11 =>
  loopV [1, 2, 4, 5, 17, 18, 19] none (fun vs m kn kx => unc vs fun x0 vs => unc vs fun x1 vs => unc vs fun x2 vs => unc vs fun x3 vs => unc vs fun x4 vs => unc vs fun x5 vs => unc vs fun x6 vs => unz vs (B26_3 kn kx x0 x1 x2 x3 x4 x5 x6 m)) (blkK 0 (fun e m => keepK e [1, 2, 4] fun vs => unc vs fun x0 vs => unc vs fun x1 vs => unc vs fun x2 vs => unz vs (Q26_9 x0 x1 x2 m)) (endK f26 m0)) n [y1, a0, a2, a4, a8, a10, (.int .i64 0)] m11
theorem g26 (call : CL) (n : Nat) (m0 : Mem) (b26_3 : C) (b26_9 : C) (y0 y1 : AV) (m : Mem) : evK call n (c26 b26_3 b26_9) [(0, y0), (1, y1)] m (fun e m => endK f26 m0 .nrm e m) (endK f26 m0) = G26 call n m0 (fun kn kx x0 x1 x2 x3 x4 x5 x6 m => evK call n b26_3 [(1, x0), (2, x1), (4, x2), (5, x3), (17, x4), (18, x5), (19, x6)] m kn kx) (fun x0 x1 x2 m => evK call n b26_9 [(1, x0), (2, x1), (4, x2)] m (fun e m => endK f26 m0 .nrm e m) (endK f26 m0)) y0 y1 m := by kernel_rfl
def S26 (call : CL) (n : Nat) (m0 : Mem) (y0 y1 : AV) : Rho := G26 call n m0 (S26_3 call n) (S26_9 call n m0) y0 y1 { m0 with bad := none }
theorem s26 (call : CL) (n : Nat) (m0 : Mem) (y0 y1 : AV) : bodyK call n f26 [y0, y1] m0 = S26 call n m0 y0 y1 :=
  have h : bodyK call n f26 [y0, y1] m0 = G26 call n m0 (d26_3 call n) (d26_9 call n m0) y0 y1 { m0 with bad := none } := Eq.mp (by kernel_rfl) (g26 call n m0 b26_3 b26_9 y0 y1 { m0 with bad := none })
  by rw [l26_3, l26_9] at h; exact h
def F26 : SF := fun call n vs m0 => unc vs fun x0 vs => unc vs fun x1 vs => unz vs (S26 call n m0 x0 x1)
theorem F26_ok {orc : List AV → Mem → Option (AV × Mem)} : SOk 26 { f26 with orc := orc } F26 := by
  intro call n vs m0 ho r h0
  simp only [F26] at h0
  obtain ⟨y0, v0, rfl, h1⟩ := unc_some h0
  obtain ⟨y1, v1, rfl, h2⟩ := unc_some h1
  obtain ⟨rfl, hz⟩ := unz_some h2
  exact bodyK_le ho rfl r (Eq.mp (by kernel_rfl) ((s26 call n m0 y0 y1).trans hz))

-- resolvent/pos.join
def G44_2 (call : CL) (n : Nat) (m0 : Mem) (y0 y1 y2 : AV) (m : Mem) : Rho :=
  callK call (.func 51 [] []) false [y1, y2] m fun a0 m1 =>
  storeK 2 y0 a0 m1 fun a2 m3 =>
  loadK (some 2) y0 m3 fun a4 _ =>
  retK false false m0 [a4] m3
theorem g44_2 (call : CL) (n : Nat) (m0 : Mem) (y0 y1 y2 : AV) (m : Mem) : evK call n b44_2 [(6, y0), (7, y1), (8, y2)] m (fun e m => endK f44 m0 .nrm e m) (endK f44 m0) = G44_2 call n m0 y0 y1 y2 m := by kernel_rfl
def k44_2 (call : CL) (n : Nat) (m0 : Mem) : KN := (fun e m => endK f44 m0 .nrm e m)
def x44_2 (call : CL) (n : Nat) (m0 : Mem) : KX := (endK f44 m0)
def S44_2 (call : CL) (n : Nat) (m0 : Mem) (y0 y1 y2 : AV) (m : Mem) : Rho := G44_2 call n m0 y0 y1 y2 m
def d44_2 (call : CL) (n : Nat) (m0 : Mem) (y0 y1 y2 : AV) (m : Mem) : Rho := evK call n b44_2 [(6, y0), (7, y1), (8, y2)] m (k44_2 call n m0) (x44_2 call n m0)
theorem l44_2 {call : CL} {n : Nat} {m0 : Mem} : d44_2 call n m0 = S44_2 call n m0 := by
  funext y0 y1 y2 m
  have h : d44_2 call n m0 y0 y1 y2 m = G44_2 call n m0 y0 y1 y2 m := Eq.mp (by kernel_rfl) (g44_2 call n m0 y0 y1 y2 m)
  exact h
def G44_0 (call : CL) (n : Nat) (kn : KN) (kx : KX) (y0 y1 y2 y3 y4 y5 y6 : AV) (m : Mem) : Rho :=
  vK (aIndexAddr m 2 y4 y6) m fun a0 m1 =>
  loadK (some 2) a0 m1 fun a2 m3 =>
  newK [(.list .full 0 []), (.bool false)] m3 fun a4 m5 =>
  storeK 2 a4 a2 m5 fun a6 m7 =>
  loadK (some 2) a4 m7 fun a8 m9 =>
  callK call (.func 48 [] []) false [y2, a8] m9 fun a10 m11 =>
  callK call (.func 47 [] []) false [y2, y3, a10, y0] m11 fun a12 m13 =>
  binK .add y6 (.int .i64 1) fun a14 =>
  kn [(0, y0), (6, y1), (7, y2), (8, a12), (15, y4), (16, y5), (17, a14)] m13
theorem g44_0 (call : CL) (n : Nat) (kn : KN) (kx : KX) (y0 y1 y2 y3 y4 y5 y6 : AV) (m : Mem) : evK call n b44_0 [(0, y0), (6, y1), (7, y2), (8, y3), (15, y4), (16, y5), (17, y6)] m kn kx = G44_0 call n kn kx y0 y1 y2 y3 y4 y5 y6 m := by kernel_rfl
def k44_0 (call : CL) (n : Nat) (kn : KN) (kx : KX) : KN := kn
def x44_0 (call : CL) (n : Nat) (kn : KN) (kx : KX) : KX := kx
def S44_0 (call : CL) (n : Nat) (kn : KN) (kx : KX) (y0 y1 y2 y3 y4 y5 y6 : AV) (m : Mem) : Rho := G44_0 call n kn kx y0 y1 y2 y3 y4 y5 y6 m
def d44_0 (call : CL) (n : Nat) (kn : KN) (kx : KX) (y0 y1 y2 y3 y4 y5 y6 : AV) (m : Mem) : Rho := evK call n b44_0 [(0, y0), (6, y1), (7, y2), (8, y3), (15, y4), (16, y5), (17, y6)] m (k44_0 call n kn kx) (x44_0 call n kn kx)
theorem l44_0 {call : CL} {n : Nat} {kn : KN} {kx : KX} : d44_0 call n kn kx = S44_0 call n kn kx := by
  funext y0 y1 y2 y3 y4 y5 y6 m
  have h : d44_0 call n kn kx y0 y1 y2 y3 y4 y5 y6 m = G44_0 call n kn kx y0 y1 y2 y3 y4 y5 y6 m := Eq.mp (by kernel_rfl) (g44_0 call n kn kx y0 y1 y2 y3 y4 y5 y6 m)
  exact h
def G44_1 (call : CL) (n : Nat) (kn : KN) (kx : KX) (Q44_0 : Y7) (y0 y1 y2 y3 y4 y5 y6 : AV) (m : Mem) : Rho :=
  binK .lss y6 y5 fun a0 =>
  condK a0
  (Q44_0 y0 y1 y2 y3 y4 y5 y6 m)
  (kx (.ext 0) [(0, y0), (6, y1), (7, y2), (8, y3), (15, y4), (16, y5), (17, y6), (18, a0)] m)
theorem g44_1 (call : CL) (n : Nat) (kn : KN) (kx : KX) (b44_0 : C) (y0 y1 y2 y3 y4 y5 y6 : AV) (m : Mem) : evK call n (c44_1 b44_0) [(0, y0), (6, y1), (7, y2), (8, y3), (15, y4), (16, y5), (17, y6)] m kn kx = G44_1 call n kn kx (fun x0 x1 x2 x3 x4 x5 x6 m => evK call n b44_0 [(0, x0), (6, x1), (7, x2), (8, x3), (15, x4), (16, x5), (17, x6)] m kn kx) y0 y1 y2 y3 y4 y5 y6 m := by kernel_rfl
def S44_1 (call : CL) (n : Nat) (kn : KN) (kx : KX) (y0 y1 y2 y3 y4 y5 y6 : AV) (m : Mem) : Rho := G44_1 call n kn kx (S44_0 call n kn kx) y0 y1 y2 y3 y4 y5 y6 m
def d44_1 (call : CL) (n : Nat) (kn : KN) (kx : KX) (y0 y1 y2 y3 y4 y5 y6 : AV) (m : Mem) : Rho := evK call n b44_1 [(0, y0), (6, y1), (7, y2), (8, y3), (15, y4), (16, y5), (17, y6)] m kn kx
theorem l44_1 {call : CL} {n : Nat} : d44_1 call n = S44_1 call n := by
  funext kn kx y0 y1 y2 y3 y4 y5 y6 m
  have h : d44_1 call n kn kx y0 y1 y2 y3 y4 y5 y6 m = G44_1 call n kn kx (d44_0 call n kn kx) y0 y1 y2 y3 y4 y5 y6 m := Eq.mp (by kernel_rfl) (g44_1 call n kn kx b44_0 y0 y1 y2 y3 y4 y5 y6 m)
  rw [l44_0] at h; exact h
def G44 (call : CL) (n : Nat) (m0 : Mem) (B44_1 : KN → KX → Y7) (Q44_2 : Y3) (y0 y1 y2 : AV) (m : Mem) : Rho :=
  boxK y1 m fun a0 m1 =>
  newK [(.list .full 0 []), (.bool false)] m1 fun a2 m3 =>
  callK call (.func 46 [] []) false [] m3 fun a4 m5 =>
  loadK (some 2) a0 m5 fun a6 m7 =>
  callK call (.func 48 [] []) false [a4, a6] m7 fun a8 m9 =>
  vK (aLen m9 1 y2) m9 fun a10 m11 =>
  loopV [0, 6, 7, 8, 15, 16, 17] none (fun vs m kn kx => unc vs fun x0 vs => unc vs fun x1 vs => unc vs fun x2 vs => unc vs fun x3 vs => unc vs fun x4 vs => unc vs fun x5 vs => unc vs fun x6 vs => unz vs (B44_1 kn kx x0 x1 x2 x3 x4 x5 x6 m)) (blkK 0 (fun e m => keepK e [6, 7, 8] fun vs => unc vs fun x0 vs => unc vs fun x1 vs => unc vs fun x2 vs => unz vs (Q44_2 x0 x1 x2 m)) (endK f44 m0)) n [y0, a2, a4, a8, y2, a10, (.int .i64 0)] m11
theorem g44 (call : CL) (n : Nat) (m0 : Mem) (b44_1 : C) (b44_2 : C) (y0 y1 y2 : AV) (m : Mem) : evK call n (c44 b44_1 b44_2) [(0, y0), (1, y1), (2, y2)] m (fun e m => endK f44 m0 .nrm e m) (endK f44 m0) = G44 call n m0 (fun kn kx x0 x1 x2 x3 x4 x5 x6 m => evK call n b44_1 [(0, x0), (6, x1), (7, x2), (8, x3), (15, x4), (16, x5), (17, x6)] m kn kx) (fun x0 x1 x2 m => evK call n b44_2 [(6, x0), (7, x1), (8, x2)] m (fun e m => endK f44 m0 .nrm e m) (endK f44 m0)) y0 y1 y2 m := by kernel_rfl
def S44 (call : CL) (n : Nat) (m0 : Mem) (y0 y1 y2 : AV) : Rho := G44 call n m0 (S44_1 call n) (S44_2 call n m0) y0 y1 y2 { m0 with bad := none }
theorem s44 (call : CL) (n : Nat) (m0 : Mem) (y0 y1 y2 : AV) : bodyK call n f44 [y0, y1, y2] m0 = S44 call n m0 y0 y1 y2 :=
  have h : bodyK call n f44 [y0, y1, y2] m0 = G44 call n m0 (d44_1 call n) (d44_2 call n m0) y0 y1 y2 { m0 with bad := none } := Eq.mp (by kernel_rfl) (g44 call n m0 b44_1 b44_2 y0 y1 y2 { m0 with bad := none })
  by rw [l44_1, l44_2] at h; exact h
def F44 : SF := fun call n vs m0 => unc vs fun x0 vs => unc vs fun x1 vs => unc vs fun x2 vs => unz vs (S44 call n m0 x0 x1 x2)
theorem F44_ok {orc : List AV → Mem → Option (AV × Mem)} : SOk 44 { f44 with orc := orc } F44 := by
  intro call n vs m0 ho r h0
  simp only [F44] at h0
  obtain ⟨y0, v0, rfl, h1⟩ := unc_some h0
  obtain ⟨y1, v1, rfl, h2⟩ := unc_some h1
  obtain ⟨y2, v2, rfl, h3⟩ := unc_some h2
  obtain ⟨rfl, hz⟩ := unz_some h3
  exact bodyK_le ho rfl r (Eq.mp (by kernel_rfl) ((s44 call n m0 y0 y1 y2).trans hz))

-- resolvent/pos.and
def G45_0 (call : CL) (n : Nat) (m0 : Mem) (m : Mem) : Rho :=
  retK false false m0 [(.int .i64 0), (.bool false)] m
theorem g45_0 (call : CL) (n : Nat) (m0 : Mem) (m : Mem) : evK call n b45_0 [] m (fun e m => endK f45 m0 .nrm e m) (endK f45 m0) = G45_0 call n m0 m := by kernel_rfl
def k45_0 (call : CL) (n : Nat) (m0 : Mem) : KN := (fun e m => endK f45 m0 .nrm e m)
def x45_0 (call : CL) (n : Nat) (m0 : Mem) : KX := (endK f45 m0)
def S45_0 (call : CL) (n : Nat) (m0 : Mem) (m : Mem) : Rho := G45_0 call n m0 m
def d45_0 (call : CL) (n : Nat) (m0 : Mem) (m : Mem) : Rho := evK call n b45_0 [] m (k45_0 call n m0) (x45_0 call n m0)
theorem l45_0 {call : CL} {n : Nat} {m0 : Mem} : d45_0 call n m0 = S45_0 call n m0 := by
  funext m
  have h : d45_0 call n m0 m = G45_0 call n m0 m := Eq.mp (by kernel_rfl) (g45_0 call n m0 m)
  exact h
def G45 (call : CL) (n : Nat) (m0 : Mem) (Q45_0 : Y0) (y0 y1 : AV) (m : Mem) : Rho :=
  binK .eql y0 (.int .i64 0) fun a0 =>
  gK a0 false (fun k => k y1 m) m fun a1 m2 =>
  gK a0 false (fun k => binK .eql a1 (.int .i64 0) fun a3 =>
  k a3 m2) m2 fun a4 m5 =>
  pickK a0 (some (.bool true)) (some a4) fun a6 =>
  condK a6
  (retK false false m0 [(.int .i64 0), (.bool true)] m5)
  (binK .eql y0 (.int .i64 1) fun a7 =>
  condK a7
  (retK false false m0 [y1, (.bool true)] m5)
  (binK .eql y1 (.int .i64 1) fun a8 =>
  gK a8 false (fun k => k y0 m5) m5 fun a9 m10 =>
  gK a8 false (fun k => k y1 m10) m10 fun a11 m12 =>
  gK a8 false (fun k => binK .eql a9 a11 fun a13 =>
  k a13 m12) m12 fun a14 m15 =>
  pickK a8 (some (.bool true)) (some a14) fun a16 =>
  condK a16
  (retK false false m0 [y0, (.bool true)] m15)
  (Q45_0 m15)))
theorem g45 (call : CL) (n : Nat) (m0 : Mem) (b45_0 : C) (y0 y1 : AV) (m : Mem) : evK call n (c45 b45_0) [(0, y0), (1, y1)] m (fun e m => endK f45 m0 .nrm e m) (endK f45 m0) = G45 call n m0 (fun m => evK call n b45_0 [] m (fun e m => endK f45 m0 .nrm e m) (endK f45 m0)) y0 y1 m := by kernel_rfl
def S45 (call : CL) (n : Nat) (m0 : Mem) (y0 y1 : AV) : Rho := G45 call n m0 (S45_0 call n m0) y0 y1 { m0 with bad := none }
theorem s45 (call : CL) (n : Nat) (m0 : Mem) (y0 y1 : AV) : bodyK call n f45 [y0, y1] m0 = S45 call n m0 y0 y1 :=
  have h : bodyK call n f45 [y0, y1] m0 = G45 call n m0 (d45_0 call n m0) y0 y1 { m0 with bad := none } := Eq.mp (by kernel_rfl) (g45 call n m0 b45_0 y0 y1 { m0 with bad := none })
  by rw [l45_0] at h; exact h
def F45 : SF := fun call n vs m0 => unc vs fun x0 vs => unc vs fun x1 vs => unz vs (S45 call n m0 x0 x1)
theorem F45_ok {orc : List AV → Mem → Option (AV × Mem)} : SOk 45 { f45 with orc := orc } F45 := by
  intro call n vs m0 ho r h0
  simp only [F45] at h0
  obtain ⟨y0, v0, rfl, h1⟩ := unc_some h0
  obtain ⟨y1, v1, rfl, h2⟩ := unc_some h1
  obtain ⟨rfl, hz⟩ := unz_some h2
  exact bodyK_le ho rfl r (Eq.mp (by kernel_rfl) ((s45 call n m0 y0 y1).trans hz))

-- resolvent/pos.open
def G46 (call : CL) (n : Nat) (m0 : Mem) (m : Mem) : Rho :=
  makeMapK m fun a0 m1 =>
  buildTK [(.list .full 0 []), .nilmap] 0 3 [(1, 1, AV.untag1 a0)] m1 fun a2 m3 =>
  boxK a2 m3 fun a4 m5 =>
  retK false false m0 [a4] m5
theorem g46 (call : CL) (n : Nat) (m0 : Mem) (m : Mem) : evK call n b46 [] m (fun e m => endK f46 m0 .nrm e m) (endK f46 m0) = G46 call n m0 m := by kernel_rfl
def S46 (call : CL) (n : Nat) (m0 : Mem) : Rho := G46 call n m0 { m0 with bad := none }
theorem s46 (call : CL) (n : Nat) (m0 : Mem) : bodyK call n f46 [] m0 = S46 call n m0 :=
  have h : bodyK call n f46 [] m0 = G46 call n m0 { m0 with bad := none } := Eq.mp (by kernel_rfl) (g46 call n m0 { m0 with bad := none })
  h
def F46 : SF := fun call n vs m0 => unz vs (S46 call n m0)
theorem F46_ok {orc : List AV → Mem → Option (AV × Mem)} : SOk 46 { f46 with orc := orc } F46 := by
  intro call n vs m0 ho r h0
  simp only [F46] at h0
  obtain ⟨rfl, hz⟩ := unz_some h0
  exact bodyK_le ho rfl r (Eq.mp (by kernel_rfl) ((s46 call n m0).trans hz))

-- (*resolvent/pos.table).both
def G47 (call : CL) (n : Nat) (m0 : Mem) (y0 y1 y2 y3 : AV) (m : Mem) : Rho :=
  boxK y0 m fun a0 m1 =>
  boxK y3 m1 fun a2 m3 =>
  makeMapK m3 fun a4 m5 =>
  newK [.nilmap] m5 fun a6 m7 =>
  storeK 1 a6 a4 m7 fun a8 m9 =>
  newK [.nilfunc] m9 fun a10 m11 =>
  storeK 1 a10 (.func 75 [] [a2, a6, a0, a10]) m11 fun a12 m13 =>
  loadK none a10 m13 fun a14 m15 =>
  callK call a14 false [y1, y2] m15 fun a16 m17 =>
  retK false false m0 [a16] m17
theorem g47 (call : CL) (n : Nat) (m0 : Mem) (y0 y1 y2 y3 : AV) (m : Mem) : evK call n b47 [(0, y0), (1, y1), (2, y2), (3, y3)] m (fun e m => endK f47 m0 .nrm e m) (endK f47 m0) = G47 call n m0 y0 y1 y2 y3 m := by kernel_rfl
def S47 (call : CL) (n : Nat) (m0 : Mem) (y0 y1 y2 y3 : AV) : Rho := G47 call n m0 y0 y1 y2 y3 { m0 with bad := none }
theorem s47 (call : CL) (n : Nat) (m0 : Mem) (y0 y1 y2 y3 : AV) : bodyK call n f47 [y0, y1, y2, y3] m0 = S47 call n m0 y0 y1 y2 y3 :=
  have h : bodyK call n f47 [y0, y1, y2, y3] m0 = G47 call n m0 y0 y1 y2 y3 { m0 with bad := none } := Eq.mp (by kernel_rfl) (g47 call n m0 y0 y1 y2 y3 { m0 with bad := none })
  h
def F47 : SF := fun call n vs m0 => unc vs fun x0 vs => unc vs fun x1 vs => unc vs fun x2 vs => unc vs fun x3 vs => unz vs (S47 call n m0 x0 x1 x2 x3)
theorem F47_ok {orc : List AV → Mem → Option (AV × Mem)} : SOk 47 { f47 with orc := orc } F47 := by
  intro call n vs m0 ho r h0
  simp only [F47] at h0
  obtain ⟨y0, v0, rfl, h1⟩ := unc_some h0
  obtain ⟨y1, v1, rfl, h2⟩ := unc_some h1
  obtain ⟨y2, v2, rfl, h3⟩ := unc_some h2
  obtain ⟨y3, v3, rfl, h4⟩ := unc_some h3
  obtain ⟨rfl, hz⟩ := unz_some h4
  exact bodyK_le ho rfl r (Eq.mp (by kernel_rfl) ((s47 call n m0 y0 y1 y2 y3).trans hz))

-- (*resolvent/pos.table).put
def G48_3 (call : CL) (n : Nat) (m0 : Mem) (y0 : AV) (m : Mem) : Rho :=
  vK (aLen m 1 y0) m fun a0 m1 =>
  binK .sub a0 (.int .i64 1) fun a2 =>
  vK (aIndexAddr m1 1 y0 a2) m1 fun a3 m4 =>
  loadK none a3 m4 fun a5 m6 =>
  retK false false m0 [a5] m6
theorem g48_3 (call : CL) (n : Nat) (m0 : Mem) (y0 : AV) (m : Mem) : evK call n b48_3 [(5, y0)] m (fun e m => endK f48 m0 .nrm e m) (endK f48 m0) = G48_3 call n m0 y0 m := by kernel_rfl
def k48_3 (call : CL) (n : Nat) (m0 : Mem) : KN := (fun e m => endK f48 m0 .nrm e m)
def x48_3 (call : CL) (n : Nat) (m0 : Mem) : KX := (endK f48 m0)
def S48_3 (call : CL) (n : Nat) (m0 : Mem) (y0 : AV) (m : Mem) : Rho := G48_3 call n m0 y0 m
def d48_3 (call : CL) (n : Nat) (m0 : Mem) (y0 : AV) (m : Mem) : Rho := evK call n b48_3 [(5, y0)] m (k48_3 call n m0) (x48_3 call n m0)
theorem l48_3 {call : CL} {n : Nat} {m0 : Mem} : d48_3 call n m0 = S48_3 call n m0 := by
  funext y0 m
  have h : d48_3 call n m0 y0 m = G48_3 call n m0 y0 m := Eq.mp (by kernel_rfl) (g48_3 call n m0 y0 m)
  exact h
def G48_4 (call : CL) (n : Nat) (m0 : Mem) (Q48_3 : Y1) (y0 y1 : AV) (m : Mem) : Rho :=
  vK (aFieldAddr 0 1 y0) m fun a0 m1 =>
  loadK none a0 m1 fun a2 m3 =>
  vK (aLen m3 1 a2) m3 fun a4 m5 =>
  binK .eql a4 (.int .i64 0) fun a6 =>
  condK a6
  (vK (aFieldAddr 1 1 y0) m5 fun a7 m8 =>
  loadK none a7 m8 fun a9 m10 =>
  callK call (.func 78 [] []) false [a9] m10 fun a11 m12 =>
  retK false false m0 [a11] m12)
  (Q48_3 y1 m5)
theorem g48_4 (call : CL) (n : Nat) (m0 : Mem) (b48_3 : C) (y0 y1 : AV) (m : Mem) : evK call n (c48_4 b48_3) [(3, y0), (5, y1)] m (fun e m => endK f48 m0 .nrm e m) (endK f48 m0) = G48_4 call n m0 (fun x0 m => evK call n b48_3 [(5, x0)] m (fun e m => endK f48 m0 .nrm e m) (endK f48 m0)) y0 y1 m := by kernel_rfl
def k48_4 (call : CL) (n : Nat) (m0 : Mem) : KN := (fun e m => endK f48 m0 .nrm e m)
def x48_4 (call : CL) (n : Nat) (m0 : Mem) : KX := (endK f48 m0)
def S48_4 (call : CL) (n : Nat) (m0 : Mem) (y0 y1 : AV) (m : Mem) : Rho := G48_4 call n m0 (S48_3 call n m0) y0 y1 m
def d48_4 (call : CL) (n : Nat) (m0 : Mem) (y0 y1 : AV) (m : Mem) : Rho := evK call n b48_4 [(3, y0), (5, y1)] m (k48_4 call n m0) (x48_4 call n m0)
theorem l48_4 {call : CL} {n : Nat} {m0 : Mem} : d48_4 call n m0 = S48_4 call n m0 := by
  funext y0 y1 m
  have h : d48_4 call n m0 y0 y1 m = G48_4 call n m0 (d48_3 call n m0) y0 y1 m := Eq.mp (by kernel_rfl) (g48_4 call n m0 b48_3 y0 y1 m)
  rw [l48_3] at h; exact h
def G48_1 (call : CL) (n : Nat) (kn : KN) (kx : KX) (y0 y1 y2 y3 y4 y5 : AV) (m : Mem) : Rho :=
  vK (aIndexAddr m 3 y3 y5) m fun a0 m1 =>
  loadK (some 3) a0 m1 fun a2 m3 =>
  newK [(.int .i64 0), (.int .i64 0), (.int .i64 0)] m3 fun a4 m5 =>
  storeK 3 a4 a2 m5 fun a6 m7 =>
  vK (aFieldAddr 0 1 a4) m7 fun a8 m9 =>
  loadK none a8 m9 fun a10 m11 =>
  vK (aFieldAddr 1 1 a4) m11 fun a12 m13 =>
  loadK none a12 m13 fun a14 m15 =>
  vK (aIndexAddr m15 1 y2 a14) m15 fun a16 m17 =>
  loadK none a16 m17 fun a18 m19 =>
  vK (aFieldAddr 2 1 a4) m19 fun a20 m21 =>
  loadK none a20 m21 fun a22 m23 =>
  vK (aIndexAddr m23 1 y2 a22) m23 fun a24 m25 =>
  loadK none a24 m25 fun a26 m27 =>
  buildK [(.int .i64 0), (.int .i64 0), (.int .i64 0)] [(0, 1, AV.untag1 a10), (1, 1, AV.untag1 a18), (2, 1, AV.untag1 a26)] fun a28 =>
  callK call (.func 50 [] []) false [y0, a28] m27 fun a29 m30 =>
  buildSliceK 1 [(.int .i64 0)] 1 false [(0 * 1, 1, AV.untag a29)] m30 fun a31 m32 =>
  appendK 1 8 0 y2 a31 m32 fun a33 m34 =>
  cond (stayK [m7, m30, m34] []) (binK .add y5 (.int .i64 1) fun a35 =>
  kn [(0, y0), (3, y1), (5, a33), (10, y3), (11, y4), (12, a35)] m34) none
theorem g48_1 (call : CL) (n : Nat) (kn : KN) (kx : KX) (y0 y1 y2 y3 y4 y5 : AV) (m : Mem) : evK call n b48_1 [(0, y0), (3, y1), (5, y2), (10, y3), (11, y4), (12, y5)] m kn kx = G48_1 call n kn kx y0 y1 y2 y3 y4 y5 m := by kernel_rfl
def k48_1 (call : CL) (n : Nat) (kn : KN) (kx : KX) : KN := kn
def x48_1 (call : CL) (n : Nat) (kn : KN) (kx : KX) : KX := kx
def S48_1 (call : CL) (n : Nat) (kn : KN) (kx : KX) (y0 y1 y2 y3 y4 y5 : AV) (m : Mem) : Rho := G48_1 call n kn kx y0 y1 y2 y3 y4 y5 m
def d48_1 (call : CL) (n : Nat) (kn : KN) (kx : KX) (y0 y1 y2 y3 y4 y5 : AV) (m : Mem) : Rho := evK call n b48_1 [(0, y0), (3, y1), (5, y2), (10, y3), (11, y4), (12, y5)] m (k48_1 call n kn kx) (x48_1 call n kn kx)
theorem l48_1 {call : CL} {n : Nat} {kn : KN} {kx : KX} : d48_1 call n kn kx = S48_1 call n kn kx := by
  funext y0 y1 y2 y3 y4 y5 m
  have h : d48_1 call n kn kx y0 y1 y2 y3 y4 y5 m = G48_1 call n kn kx y0 y1 y2 y3 y4 y5 m := Eq.mp (by kernel_rfl) (g48_1 call n kn kx y0 y1 y2 y3 y4 y5 m)
  exact h
def G48_2 (call : CL) (n : Nat) (kn : KN) (kx : KX) (Q48_1 : Y6) (y0 y1 y2 y3 y4 y5 : AV) (m : Mem) : Rho :=
  binK .lss y5 y4 fun a0 =>
  condK a0
  (Q48_1 y0 y1 y2 y3 y4 y5 m)
  (kx (.ext 0) [(0, y0), (3, y1), (5, y2), (10, y3), (11, y4), (12, y5), (13, a0)] m)
theorem g48_2 (call : CL) (n : Nat) (kn : KN) (kx : KX) (b48_1 : C) (y0 y1 y2 y3 y4 y5 : AV) (m : Mem) : evK call n (c48_2 b48_1) [(0, y0), (3, y1), (5, y2), (10, y3), (11, y4), (12, y5)] m kn kx = G48_2 call n kn kx (fun x0 x1 x2 x3 x4 x5 m => evK call n b48_1 [(0, x0), (3, x1), (5, x2), (10, x3), (11, x4), (12, x5)] m kn kx) y0 y1 y2 y3 y4 y5 m := by kernel_rfl
def S48_2 (call : CL) (n : Nat) (kn : KN) (kx : KX) (y0 y1 y2 y3 y4 y5 : AV) (m : Mem) : Rho := G48_2 call n kn kx (S48_1 call n kn kx) y0 y1 y2 y3 y4 y5 m
def d48_2 (call : CL) (n : Nat) (kn : KN) (kx : KX) (y0 y1 y2 y3 y4 y5 : AV) (m : Mem) : Rho := evK call n b48_2 [(0, y0), (3, y1), (5, y2), (10, y3), (11, y4), (12, y5)] m kn kx
theorem l48_2 {call : CL} {n : Nat} : d48_2 call n = S48_2 call n := by
  funext kn kx y0 y1 y2 y3 y4 y5 m
  have h : d48_2 call n kn kx y0 y1 y2 y3 y4 y5 m = G48_2 call n kn kx (d48_1 call n kn kx) y0 y1 y2 y3 y4 y5 m := Eq.mp (by kernel_rfl) (g48_2 call n kn kx b48_1 y0 y1 y2 y3 y4 y5 m)
  rw [l48_1] at h; exact h
def G48 (call : CL) (n : Nat) (m0 : Mem) (B48_2 : KN → KX → Y6) (Q48_4 : Y2) (y0 y1 : AV) (m : Mem) : Rho :=
  boxK y1 m fun a0 m1 =>
  buildSliceK 1 [(.int .i64 0)] 2 false [(0 * 1, 1, AV.untag (.int .i64 0)), (1 * 1, 1, AV.untag (.int .i64 1))] m1 fun a2 m3 =>
  vK (aFieldAddr 0 1 a0) m3 fun a4 m5 =>
  loadK none a4 m5 fun a6 m7 =>
  vK (aLen m7 1 a6) m7 fun a8 m9 =>
  loopV [0, 3, 5, 10, 11, 12] none (fun vs m kn kx => unc vs fun x0 vs => unc vs fun x1 vs => unc vs fun x2 vs => unc vs fun x3 vs => unc vs fun x4 vs => unc vs fun x5 vs => unz vs (B48_2 kn kx x0 x1 x2 x3 x4 x5 m)) (blkK 0 (fun e m => keepK e [3, 5] fun vs => unc vs fun x0 vs => unc vs fun x1 vs => unz vs (Q48_4 x0 x1 m)) (endK f48 m0)) n [y0, a0, a2, a6, a8, (.int .i64 0)] m9
theorem g48 (call : CL) (n : Nat) (m0 : Mem) (b48_2 : C) (b48_4 : C) (y0 y1 : AV) (m : Mem) : evK call n (c48 b48_2 b48_4) [(0, y0), (1, y1)] m (fun e m => endK f48 m0 .nrm e m) (endK f48 m0) = G48 call n m0 (fun kn kx x0 x1 x2 x3 x4 x5 m => evK call n b48_2 [(0, x0), (3, x1), (5, x2), (10, x3), (11, x4), (12, x5)] m kn kx) (fun x0 x1 m => evK call n b48_4 [(3, x0), (5, x1)] m (fun e m => endK f48 m0 .nrm e m) (endK f48 m0)) y0 y1 m := by kernel_rfl
def S48 (call : CL) (n : Nat) (m0 : Mem) (y0 y1 : AV) : Rho := G48 call n m0 (S48_2 call n) (S48_4 call n m0) y0 y1 { m0 with bad := none }
theorem s48 (call : CL) (n : Nat) (m0 : Mem) (y0 y1 : AV) : bodyK call n f48 [y0, y1] m0 = S48 call n m0 y0 y1 :=
  have h : bodyK call n f48 [y0, y1] m0 = G48 call n m0 (d48_2 call n) (d48_4 call n m0) y0 y1 { m0 with bad := none } := Eq.mp (by kernel_rfl) (g48 call n m0 b48_2 b48_4 y0 y1 { m0 with bad := none })
  by rw [l48_2, l48_4] at h; exact h
def F48 : SF := fun call n vs m0 => unc vs fun x0 vs => unc vs fun x1 vs => unz vs (S48 call n m0 x0 x1)
theorem F48_ok {orc : List AV → Mem → Option (AV × Mem)} : SOk 48 { f48 with orc := orc } F48 := by
  intro call n vs m0 ho r h0
  simp only [F48] at h0
  obtain ⟨y0, v0, rfl, h1⟩ := unc_some h0
  obtain ⟨y1, v1, rfl, h2⟩ := unc_some h1
  obtain ⟨rfl, hz⟩ := unz_some h2
  exact bodyK_le ho rfl r (Eq.mp (by kernel_rfl) ((s48 call n m0 y0 y1).trans hz))

-- slices.Contains[[]int,int]
def G49 (call : CL) (n : Nat) (m0 : Mem) (y0 y1 : AV) (m : Mem) : Rho :=
  callK call (.func 79 [] []) false [y0, y1] m fun a0 m1 =>
  binK .geq a0 (.int .i64 0) fun a2 =>
  retK false false m0 [a2] m1
theorem g49 (call : CL) (n : Nat) (m0 : Mem) (y0 y1 : AV) (m : Mem) : evK call n b49 [(0, y0), (1, y1)] m (fun e m => endK f49 m0 .nrm e m) (endK f49 m0) = G49 call n m0 y0 y1 m := by kernel_rfl
def S49 (call : CL) (n : Nat) (m0 : Mem) (y0 y1 : AV) : Rho := G49 call n m0 y0 y1 { m0 with bad := none }
theorem s49 (call : CL) (n : Nat) (m0 : Mem) (y0 y1 : AV) : bodyK call n f49 [y0, y1] m0 = S49 call n m0 y0 y1 :=
  have h : bodyK call n f49 [y0, y1] m0 = G49 call n m0 y0 y1 { m0 with bad := none } := Eq.mp (by kernel_rfl) (g49 call n m0 y0 y1 { m0 with bad := none })
  h
def F49 : SF := fun call n vs m0 => unc vs fun x0 vs => unc vs fun x1 vs => unz vs (S49 call n m0 x0 x1)
theorem F49_ok {orc : List AV → Mem → Option (AV × Mem)} : SOk 49 { f49 with orc := orc } F49 := by
  intro call n vs m0 ho r h0
  simp only [F49] at h0
  obtain ⟨y0, v0, rfl, h1⟩ := unc_some h0
  obtain ⟨y1, v1, rfl, h2⟩ := unc_some h1
  obtain ⟨rfl, hz⟩ := unz_some h2
  exact bodyK_le ho rfl r (Eq.mp (by kernel_rfl) ((s49 call n m0 y0 y1).trans hz))

-- (*resolvent/pos.table).make
def G50_4 (call : CL) (n : Nat) (m0 : Mem) (y0 y1 : AV) (m : Mem) : Rho :=
  nilK y0 fun a0 =>
  vK (aFieldAddr 1 1 a0) m fun a1 m2 =>
  loadK none a1 m2 fun a3 m4 =>
  loadK (some 3) y1 m4 fun a5 m6 =>
  lookupK ⟨[.i, .i, .i], true⟩ (.int .i64 0) false a3 a5 m6 fun a7 =>
  retK false false m0 [a7] m6
theorem g50_4 (call : CL) (n : Nat) (m0 : Mem) (y0 y1 : AV) (m : Mem) : evK call n b50_4 [(0, y0), (3, y1)] m (fun e m => endK f50 m0 .nrm e m) (endK f50 m0) = G50_4 call n m0 y0 y1 m := by kernel_rfl
def k50_4 (call : CL) (n : Nat) (m0 : Mem) : KN := (fun e m => endK f50 m0 .nrm e m)
def x50_4 (call : CL) (n : Nat) (m0 : Mem) : KX := (endK f50 m0)
def S50_4 (call : CL) (n : Nat) (m0 : Mem) (y0 y1 : AV) (m : Mem) : Rho := G50_4 call n m0 y0 y1 m
def d50_4 (call : CL) (n : Nat) (m0 : Mem) (y0 y1 : AV) (m : Mem) : Rho := evK call n b50_4 [(0, y0), (3, y1)] m (k50_4 call n m0) (x50_4 call n m0)
theorem l50_4 {call : CL} {n : Nat} {m0 : Mem} : d50_4 call n m0 = S50_4 call n m0 := by
  funext y0 y1 m
  have h : d50_4 call n m0 y0 y1 m = G50_4 call n m0 y0 y1 m := Eq.mp (by kernel_rfl) (g50_4 call n m0 y0 y1 m)
  exact h
def G50_5 (call : CL) (n : Nat) (m0 : Mem) (Q50_4 : Y2) (y0 y1 : AV) (m : Mem) : Rho :=
  nilK y0 fun a0 =>
  vK (aFieldAddr 1 1 a0) m fun a1 m2 =>
  loadK none a1 m2 fun a3 m4 =>
  loadK (some 3) y1 m4 fun a5 m6 =>
  lookupK ⟨[.i, .i, .i], true⟩ (.int .i64 0) true a3 a5 m6 fun a7 =>
  extractK a7 0 fun a8 =>
  extractK a7 1 fun a9 =>
  unK .not a9 fun a10 =>
  condK a10
  (nilK y0 fun a11 =>
  vK (aFieldAddr 0 1 a11) m6 fun a12 m13 =>
  loadK none a12 m13 fun a14 m15 =>
  loadK (some 3) y1 m15 fun a16 m17 =>
  buildSliceK 3 [(.int .i64 0), (.int .i64 0), (.int .i64 0)] 1 false [(0 * 3, 3, AV.untag a16)] m17 fun a18 m19 =>
  appendK 3 24 0 a14 a18 m19 fun a20 m21 =>
  nilK y0 fun a22 =>
  vK (aFieldAddr 0 1 a22) m21 fun a23 m24 =>
  storeK 1 a23 a20 m24 fun a25 m26 =>
  cond (stayK [m6, m21, m26] []) (nilK y0 fun a27 =>
  vK (aFieldAddr 1 1 a27) m26 fun a28 m29 =>
  loadK none a28 m29 fun a30 m31 =>
  loadK (some 3) y1 m31 fun a32 m33 =>
  nilK y0 fun a34 =>
  vK (aFieldAddr 0 1 a34) m33 fun a35 m36 =>
  loadK none a35 m36 fun a37 m38 =>
  vK (aLen m38 1 a37) m38 fun a39 m40 =>
  binK .add a39 (.int .i64 1) fun a41 =>
  mapUpdateK ⟨[.i, .i, .i], true⟩ a30 a32 a41 m40 fun a42 m43 =>
  cond (stayK [m26, m43] []) (Q50_4 y0 y1 m43) none) none)
  (Q50_4 y0 y1 m6)
theorem g50_5 (call : CL) (n : Nat) (m0 : Mem) (b50_4 : C) (y0 y1 : AV) (m : Mem) : evK call n (c50_5 b50_4) [(0, y0), (3, y1)] m (fun e m => endK f50 m0 .nrm e m) (endK f50 m0) = G50_5 call n m0 (fun x0 x1 m => evK call n b50_4 [(0, x0), (3, x1)] m (fun e m => endK f50 m0 .nrm e m) (endK f50 m0)) y0 y1 m := by kernel_rfl
def k50_5 (call : CL) (n : Nat) (m0 : Mem) : KN := (fun e m => endK f50 m0 .nrm e m)
def x50_5 (call : CL) (n : Nat) (m0 : Mem) : KX := (endK f50 m0)
def S50_5 (call : CL) (n : Nat) (m0 : Mem) (y0 y1 : AV) (m : Mem) : Rho := G50_5 call n m0 (S50_4 call n m0) y0 y1 m
def d50_5 (call : CL) (n : Nat) (m0 : Mem) (y0 y1 : AV) (m : Mem) : Rho := evK call n b50_5 [(0, y0), (3, y1)] m (k50_5 call n m0) (x50_5 call n m0)
theorem l50_5 {call : CL} {n : Nat} {m0 : Mem} : d50_5 call n m0 = S50_5 call n m0 := by
  funext y0 y1 m
  have h : d50_5 call n m0 y0 y1 m = G50_5 call n m0 (d50_4 call n m0) y0 y1 m := Eq.mp (by kernel_rfl) (g50_5 call n m0 b50_4 y0 y1 m)
  rw [l50_4] at h; exact h
def G50 (call : CL) (n : Nat) (m0 : Mem) (Q50_5 : Y2) (y0 y1 : AV) (m : Mem) : Rho :=
  boxK y1 m fun a0 m1 =>
  vK (aFieldAddr 1 1 a0) m1 fun a2 m3 =>
  loadK none a2 m3 fun a4 m5 =>
  vK (aFieldAddr 2 1 a0) m5 fun a6 m7 =>
  loadK none a6 m7 fun a8 m9 =>
  binK .eql a4 a8 fun a10 =>
  condK a10
  (vK (aFieldAddr 1 1 a0) m9 fun a11 m12 =>
  loadK none a11 m12 fun a13 m14 =>
  retK false false m0 [a13] m14)
  (Q50_5 y0 a0 m9)
theorem g50 (call : CL) (n : Nat) (m0 : Mem) (b50_5 : C) (y0 y1 : AV) (m : Mem) : evK call n (c50 b50_5) [(0, y0), (1, y1)] m (fun e m => endK f50 m0 .nrm e m) (endK f50 m0) = G50 call n m0 (fun x0 x1 m => evK call n b50_5 [(0, x0), (3, x1)] m (fun e m => endK f50 m0 .nrm e m) (endK f50 m0)) y0 y1 m := by kernel_rfl
def S50 (call : CL) (n : Nat) (m0 : Mem) (y0 y1 : AV) : Rho := G50 call n m0 (S50_5 call n m0) y0 y1 { m0 with bad := none }
theorem s50 (call : CL) (n : Nat) (m0 : Mem) (y0 y1 : AV) : bodyK call n f50 [y0, y1] m0 = S50 call n m0 y0 y1 :=
  have h : bodyK call n f50 [y0, y1] m0 = G50 call n m0 (d50_5 call n m0) y0 y1 { m0 with bad := none } := Eq.mp (by kernel_rfl) (g50 call n m0 b50_5 y0 y1 { m0 with bad := none })
  by rw [l50_5] at h; exact h
def F50 : SF := fun call n vs m0 => unc vs fun x0 vs => unc vs fun x1 vs => unz vs (S50 call n m0 x0 x1)
theorem F50_ok {orc : List AV → Mem → Option (AV × Mem)} : SOk 50 { f50 with orc := orc } F50 := by
  intro call n vs m0 ho r h0
  simp only [F50] at h0
  obtain ⟨y0, v0, rfl, h1⟩ := unc_some h0
  obtain ⟨y1, v1, rfl, h2⟩ := unc_some h1
  obtain ⟨rfl, hz⟩ := unz_some h2
  exact bodyK_le ho rfl r (Eq.mp (by kernel_rfl) ((s50 call n m0 y0 y1).trans hz))

-- (*resolvent/pos.table).take
def G51_0 (call : CL) (n : Nat) (m0 : Mem) (y0 y1 : AV) (m : Mem) : Rho :=
  loadK (some 2) y1 m fun a0 m1 =>
  storeK 2 y0 a0 m1 fun a2 m3 =>
  loadK (some 2) y0 m3 fun a4 _ =>
  retK false false m0 [a4] m3
theorem g51_0 (call : CL) (n : Nat) (m0 : Mem) (y0 y1 : AV) (m : Mem) : evK call n b51_0 [(4, y0), (5, y1)] m (fun e m => endK f51 m0 .nrm e m) (endK f51 m0) = G51_0 call n m0 y0 y1 m := by kernel_rfl
def k51_0 (call : CL) (n : Nat) (m0 : Mem) : KN := (fun e m => endK f51 m0 .nrm e m)
def x51_0 (call : CL) (n : Nat) (m0 : Mem) : KX := (endK f51 m0)
def S51_0 (call : CL) (n : Nat) (m0 : Mem) (y0 y1 : AV) (m : Mem) : Rho := G51_0 call n m0 y0 y1 m
def d51_0 (call : CL) (n : Nat) (m0 : Mem) (y0 y1 : AV) (m : Mem) : Rho := evK call n b51_0 [(4, y0), (5, y1)] m (k51_0 call n m0) (x51_0 call n m0)
theorem l51_0 {call : CL} {n : Nat} {m0 : Mem} : d51_0 call n m0 = S51_0 call n m0 := by
  funext y0 y1 m
  have h : d51_0 call n m0 y0 y1 m = G51_0 call n m0 y0 y1 m := Eq.mp (by kernel_rfl) (g51_0 call n m0 y0 y1 m)
  exact h
def G51_1 (call : CL) (n : Nat) (m0 : Mem) (Q51_0 : Y2) (y0 y1 y2 : AV) (m : Mem) : Rho :=
  newK [(.list .full 0 []), (.bool false)] m fun a0 m1 =>
  makeMapK m1 fun a2 m3 =>
  mapUpdateK ⟨[.i], false⟩ a2 (.int .i64 0) (.int .i64 0) m3 fun a4 m5 =>
  mapUpdateK ⟨[.i], false⟩ a2 (.int .i64 1) (.int .i64 1) m5 fun a6 m7 =>
  newK [.nilmap] m7 fun a8 m9 =>
  storeK 1 a8 a2 m9 fun a10 m11 =>
  newK [.nilfunc] m11 fun a12 m13 =>
  storeK 1 a12 (.func 80 [] [a8, y1, a12, a0]) m13 fun a14 m15 =>
  loadK none a12 m15 fun a16 m17 =>
  callK call a16 false [y0] m17 fun a18 m19 =>
  vK (aFieldAddr 0 1 a0) m19 fun a20 m21 =>
  loadK none a20 m21 fun a22 m23 =>
  vK (aLen m23 1 a22) m23 fun a24 m25 =>
  binK .gtr a24 (.int .i64 256) fun a26 =>
  condK a26
  (callK call (.func 10 [] []) false [(.bool true)] m25 fun a27 m28 =>
  storeK 2 y2 a27 m28 fun a29 m30 =>
  loadK (some 2) y2 m30 fun a31 _ =>
  retK false false m0 [a31] m30)
  (Q51_0 y2 a0 m25)
theorem g51_1 (call : CL) (n : Nat) (m0 : Mem) (b51_0 : C) (y0 y1 y2 : AV) (m : Mem) : evK call n (c51_1 b51_0) [(1, y0), (2, y1), (4, y2)] m (fun e m => endK f51 m0 .nrm e m) (endK f51 m0) = G51_1 call n m0 (fun x0 x1 m => evK call n b51_0 [(4, x0), (5, x1)] m (fun e m => endK f51 m0 .nrm e m) (endK f51 m0)) y0 y1 y2 m := by kernel_rfl
def k51_1 (call : CL) (n : Nat) (m0 : Mem) : KN := (fun e m => endK f51 m0 .nrm e m)
def x51_1 (call : CL) (n : Nat) (m0 : Mem) : KX := (endK f51 m0)
def S51_1 (call : CL) (n : Nat) (m0 : Mem) (y0 y1 y2 : AV) (m : Mem) : Rho := G51_1 call n m0 (S51_0 call n m0) y0 y1 y2 m
def d51_1 (call : CL) (n : Nat) (m0 : Mem) (y0 y1 y2 : AV) (m : Mem) : Rho := evK call n b51_1 [(1, y0), (2, y1), (4, y2)] m (k51_1 call n m0) (x51_1 call n m0)
theorem l51_1 {call : CL} {n : Nat} {m0 : Mem} : d51_1 call n m0 = S51_1 call n m0 := by
  funext y0 y1 y2 m
  have h : d51_1 call n m0 y0 y1 y2 m = G51_1 call n m0 (d51_0 call n m0) y0 y1 y2 m := Eq.mp (by kernel_rfl) (g51_1 call n m0 b51_0 y0 y1 y2 m)
  rw [l51_0] at h; exact h
def G51 (call : CL) (n : Nat) (m0 : Mem) (Q51_1 : Y3) (y0 y1 : AV) (m : Mem) : Rho :=
  boxK y0 m fun a0 m1 =>
  newK [(.list .full 0 []), (.bool false)] m1 fun a2 m3 =>
  binK .lss y1 (.int .i64 2) fun a4 =>
  condK a4
  (binK .eql y1 (.int .i64 1) fun a5 =>
  buildK [(.list .full 0 []), (.bool false)] [(1, 1, AV.untag1 a5)] fun a6 =>
  storeK 2 a2 a6 m3 fun a7 m8 =>
  loadK (some 2) a2 m8 fun a9 _ =>
  retK false false m0 [a9] m8)
  (Q51_1 y1 a0 a2 m3)
theorem g51 (call : CL) (n : Nat) (m0 : Mem) (b51_1 : C) (y0 y1 : AV) (m : Mem) : evK call n (c51 b51_1) [(0, y0), (1, y1)] m (fun e m => endK f51 m0 .nrm e m) (endK f51 m0) = G51 call n m0 (fun x0 x1 x2 m => evK call n b51_1 [(1, x0), (2, x1), (4, x2)] m (fun e m => endK f51 m0 .nrm e m) (endK f51 m0)) y0 y1 m := by kernel_rfl
def S51 (call : CL) (n : Nat) (m0 : Mem) (y0 y1 : AV) : Rho := G51 call n m0 (S51_1 call n m0) y0 y1 { m0 with bad := none }
theorem s51 (call : CL) (n : Nat) (m0 : Mem) (y0 y1 : AV) : bodyK call n f51 [y0, y1] m0 = S51 call n m0 y0 y1 :=
  have h : bodyK call n f51 [y0, y1] m0 = G51 call n m0 (d51_1 call n m0) y0 y1 { m0 with bad := none } := Eq.mp (by kernel_rfl) (g51 call n m0 b51_1 y0 y1 { m0 with bad := none })
  by rw [l51_1] at h; exact h
def F51 : SF := fun call n vs m0 => unc vs fun x0 vs => unc vs fun x1 vs => unz vs (S51 call n m0 x0 x1)
theorem F51_ok {orc : List AV → Mem → Option (AV × Mem)} : SOk 51 { f51 with orc := orc } F51 := by
  intro call n vs m0 ho r h0
  simp only [F51] at h0
  obtain ⟨y0, v0, rfl, h1⟩ := unc_some h0
  obtain ⟨y1, v1, rfl, h2⟩ := unc_some h1
  obtain ⟨rfl, hz⟩ := unz_some h2
  exact bodyK_le ho rfl r (Eq.mp (by kernel_rfl) ((s51 call n m0 y0 y1).trans hz))

-- resolvent/pos.or
def G52_0 (call : CL) (n : Nat) (m0 : Mem) (m : Mem) : Rho :=
  retK false false m0 [(.int .i64 0), (.bool false)] m
theorem g52_0 (call : CL) (n : Nat) (m0 : Mem) (m : Mem) : evK call n b52_0 [] m (fun e m => endK f52 m0 .nrm e m) (endK f52 m0) = G52_0 call n m0 m := by kernel_rfl
def k52_0 (call : CL) (n : Nat) (m0 : Mem) : KN := (fun e m => endK f52 m0 .nrm e m)
def x52_0 (call : CL) (n : Nat) (m0 : Mem) : KX := (endK f52 m0)
def S52_0 (call : CL) (n : Nat) (m0 : Mem) (m : Mem) : Rho := G52_0 call n m0 m
def d52_0 (call : CL) (n : Nat) (m0 : Mem) (m : Mem) : Rho := evK call n b52_0 [] m (k52_0 call n m0) (x52_0 call n m0)
theorem l52_0 {call : CL} {n : Nat} {m0 : Mem} : d52_0 call n m0 = S52_0 call n m0 := by
  funext m
  have h : d52_0 call n m0 m = G52_0 call n m0 m := Eq.mp (by kernel_rfl) (g52_0 call n m0 m)
  exact h
def G52 (call : CL) (n : Nat) (m0 : Mem) (Q52_0 : Y0) (y0 y1 : AV) (m : Mem) : Rho :=
  binK .eql y0 (.int .i64 1) fun a0 =>
  gK a0 false (fun k => k y1 m) m fun a1 m2 =>
  gK a0 false (fun k => binK .eql a1 (.int .i64 1) fun a3 =>
  k a3 m2) m2 fun a4 m5 =>
  pickK a0 (some (.bool true)) (some a4) fun a6 =>
  condK a6
  (retK false false m0 [(.int .i64 1), (.bool true)] m5)
  (binK .eql y0 (.int .i64 0) fun a7 =>
  condK a7
  (retK false false m0 [y1, (.bool true)] m5)
  (binK .eql y1 (.int .i64 0) fun a8 =>
  gK a8 false (fun k => k y0 m5) m5 fun a9 m10 =>
  gK a8 false (fun k => k y1 m10) m10 fun a11 m12 =>
  gK a8 false (fun k => binK .eql a9 a11 fun a13 =>
  k a13 m12) m12 fun a14 m15 =>
  pickK a8 (some (.bool true)) (some a14) fun a16 =>
  condK a16
  (retK false false m0 [y0, (.bool true)] m15)
  (Q52_0 m15)))
theorem g52 (call : CL) (n : Nat) (m0 : Mem) (b52_0 : C) (y0 y1 : AV) (m : Mem) : evK call n (c52 b52_0) [(0, y0), (1, y1)] m (fun e m => endK f52 m0 .nrm e m) (endK f52 m0) = G52 call n m0 (fun m => evK call n b52_0 [] m (fun e m => endK f52 m0 .nrm e m) (endK f52 m0)) y0 y1 m := by kernel_rfl
def S52 (call : CL) (n : Nat) (m0 : Mem) (y0 y1 : AV) : Rho := G52 call n m0 (S52_0 call n m0) y0 y1 { m0 with bad := none }
theorem s52 (call : CL) (n : Nat) (m0 : Mem) (y0 y1 : AV) : bodyK call n f52 [y0, y1] m0 = S52 call n m0 y0 y1 :=
  have h : bodyK call n f52 [y0, y1] m0 = G52 call n m0 (d52_0 call n m0) y0 y1 { m0 with bad := none } := Eq.mp (by kernel_rfl) (g52 call n m0 b52_0 y0 y1 { m0 with bad := none })
  by rw [l52_0] at h; exact h
def F52 : SF := fun call n vs m0 => unc vs fun x0 vs => unc vs fun x1 vs => unz vs (S52 call n m0 x0 x1)
theorem F52_ok {orc : List AV → Mem → Option (AV × Mem)} : SOk 52 { f52 with orc := orc } F52 := by
  intro call n vs m0 ho r h0
  simp only [F52] at h0
  obtain ⟨y0, v0, rfl, h1⟩ := unc_some h0
  obtain ⟨y1, v1, rfl, h2⟩ := unc_some h1
  obtain ⟨rfl, hz⟩ := unz_some h2
  exact bodyK_le ho rfl r (Eq.mp (by kernel_rfl) ((s52 call n m0 y0 y1).trans hz))

-- (*resolvent/pos.table).opposite
def G53_1 (call : CL) (n : Nat) (m0 : Mem) (y0 y1 : AV) (m : Mem) : Rho :=
  nilK y0 fun a0 =>
  vK (aFieldAddr 0 1 a0) m fun a1 m2 =>
  loadK none a1 m2 fun a3 m4 =>
  binK .sub y1 (.int .i64 2) fun a5 =>
  vK (aIndexAddr m4 3 a3 a5) m4 fun a6 m7 =>
  loadK (some 3) a6 m7 fun a8 m9 =>
  newK [(.int .i64 0), (.int .i64 0), (.int .i64 0)] m9 fun a10 m11 =>
  storeK 3 a10 a8 m11 fun a12 m13 =>
  vK (aFieldAddr 1 1 a10) m13 fun a14 m15 =>
  loadK none a14 m15 fun a16 m17 =>
  callK call (.func 53 [] []) false [y0, a16] m17 fun a18 m19 =>
  vK (aFieldAddr 0 1 a10) m19 fun a20 m21 =>
  loadK none a20 m21 fun a22 m23 =>
  vK (aFieldAddr 2 1 a10) m23 fun a24 m25 =>
  loadK none a24 m25 fun a26 m27 =>
  callK call (.func 53 [] []) false [y0, a26] m27 fun a28 m29 =>
  buildK [(.int .i64 0), (.int .i64 0), (.int .i64 0)] [(0, 1, AV.untag1 a22), (1, 1, AV.untag1 a18), (2, 1, AV.untag1 a28)] fun a30 =>
  callK call (.func 50 [] []) false [y0, a30] m29 fun a31 m32 =>
  cond (stayK [m19, m29, m32] [(fun m => m.load none a20, a22, 0, 2, true)]) (retK false false m0 [a31] m32) none
theorem g53_1 (call : CL) (n : Nat) (m0 : Mem) (y0 y1 : AV) (m : Mem) : evK call n b53_1 [(0, y0), (1, y1)] m (fun e m => endK f53 m0 .nrm e m) (endK f53 m0) = G53_1 call n m0 y0 y1 m := by kernel_rfl
def k53_1 (call : CL) (n : Nat) (m0 : Mem) : KN := (fun e m => endK f53 m0 .nrm e m)
def x53_1 (call : CL) (n : Nat) (m0 : Mem) : KX := (endK f53 m0)
def S53_1 (call : CL) (n : Nat) (m0 : Mem) (y0 y1 : AV) (m : Mem) : Rho := G53_1 call n m0 y0 y1 m
def d53_1 (call : CL) (n : Nat) (m0 : Mem) (y0 y1 : AV) (m : Mem) : Rho := evK call n b53_1 [(0, y0), (1, y1)] m (k53_1 call n m0) (x53_1 call n m0)
theorem l53_1 {call : CL} {n : Nat} {m0 : Mem} : d53_1 call n m0 = S53_1 call n m0 := by
  funext y0 y1 m
  have h : d53_1 call n m0 y0 y1 m = G53_1 call n m0 y0 y1 m := Eq.mp (by kernel_rfl) (g53_1 call n m0 y0 y1 m)
  exact h
def G53 (call : CL) (n : Nat) (m0 : Mem) (Q53_1 : Y2) (y0 y1 : AV) (m : Mem) : Rho :=
  binK .lss y1 (.int .i64 2) fun a0 =>
  condK a0
  (binK .sub (.int .i64 1) y1 fun a1 =>
  retK false false m0 [a1] m)
  (Q53_1 y0 y1 m)
theorem g53 (call : CL) (n : Nat) (m0 : Mem) (b53_1 : C) (y0 y1 : AV) (m : Mem) : evK call n (c53 b53_1) [(0, y0), (1, y1)] m (fun e m => endK f53 m0 .nrm e m) (endK f53 m0) = G53 call n m0 (fun x0 x1 m => evK call n b53_1 [(0, x0), (1, x1)] m (fun e m => endK f53 m0 .nrm e m) (endK f53 m0)) y0 y1 m := by kernel_rfl
def S53 (call : CL) (n : Nat) (m0 : Mem) (y0 y1 : AV) : Rho := G53 call n m0 (S53_1 call n m0) y0 y1 { m0 with bad := none }
theorem s53 (call : CL) (n : Nat) (m0 : Mem) (y0 y1 : AV) : bodyK call n f53 [y0, y1] m0 = S53 call n m0 y0 y1 :=
  have h : bodyK call n f53 [y0, y1] m0 = G53 call n m0 (d53_1 call n m0) y0 y1 { m0 with bad := none } := Eq.mp (by kernel_rfl) (g53 call n m0 b53_1 y0 y1 { m0 with bad := none })
  by rw [l53_1] at h; exact h
def F53 : SF := fun call n vs m0 => unc vs fun x0 vs => unc vs fun x1 vs => unz vs (S53 call n m0 x0 x1)
theorem F53_ok {orc : List AV → Mem → Option (AV × Mem)} : SOk 53 { f53 with orc := orc } F53 := by
  intro call n vs m0 ho r h0
  simp only [F53] at h0
  obtain ⟨y0, v0, rfl, h1⟩ := unc_some h0
  obtain ⟨y1, v1, rfl, h2⟩ := unc_some h1
  obtain ⟨rfl, hz⟩ := unz_some h2
  exact bodyK_le ho rfl r (Eq.mp (by kernel_rfl) ((s53 call n m0 y0 y1).trans hz))

-- resolvent/resolventlaw16.place
def G54 (call : CL) (n : Nat) (m0 : Mem) (y0 y1 : AV) (m : Mem) : Rho :=
  binK .rem y0 y1 fun a0 =>
  binK .add a0 y1 fun a1 =>
  binK .rem a1 y1 fun a2 =>
  retK false false m0 [a2] m
theorem g54 (call : CL) (n : Nat) (m0 : Mem) (y0 y1 : AV) (m : Mem) : evK call n b54 [(0, y0), (1, y1)] m (fun e m => endK f54 m0 .nrm e m) (endK f54 m0) = G54 call n m0 y0 y1 m := by kernel_rfl
def S54 (call : CL) (n : Nat) (m0 : Mem) (y0 y1 : AV) : Rho := G54 call n m0 y0 y1 { m0 with bad := none }
theorem s54 (call : CL) (n : Nat) (m0 : Mem) (y0 y1 : AV) : bodyK call n f54 [y0, y1] m0 = S54 call n m0 y0 y1 :=
  have h : bodyK call n f54 [y0, y1] m0 = G54 call n m0 y0 y1 { m0 with bad := none } := Eq.mp (by kernel_rfl) (g54 call n m0 y0 y1 { m0 with bad := none })
  h
def F54 : SF := fun call n vs m0 => unc vs fun x0 vs => unc vs fun x1 vs => unz vs (S54 call n m0 x0 x1)
theorem F54_ok {orc : List AV → Mem → Option (AV × Mem)} : SOk 54 { f54 with orc := orc } F54 := by
  intro call n vs m0 ho r h0
  simp only [F54] at h0
  obtain ⟨y0, v0, rfl, h1⟩ := unc_some h0
  obtain ⟨y1, v1, rfl, h2⟩ := unc_some h1
  obtain ⟨rfl, hz⟩ := unz_some h2
  exact bodyK_le ho rfl r (Eq.mp (by kernel_rfl) ((s54 call n m0 y0 y1).trans hz))

-- resolvent/resolventlaw16.holds
def G55_5 (call : CL) (n : Nat) (m0 : Mem) (y0 : AV) (m : Mem) : Rho :=
  vK (aFieldAddr 1 1 y0) m fun a0 m1 =>
  loadK none a0 m1 fun a2 m3 =>
  binK .gtr a2 (.int .i64 0) fun a4 =>
  retK false false m0 [a4] m3
theorem g55_5 (call : CL) (n : Nat) (m0 : Mem) (y0 : AV) (m : Mem) : evK call n b55_5 [(3, y0)] m (fun e m => endK f55 m0 .nrm e m) (endK f55 m0) = G55_5 call n m0 y0 m := by kernel_rfl
def k55_5 (call : CL) (n : Nat) (m0 : Mem) : KN := (fun e m => endK f55 m0 .nrm e m)
def x55_5 (call : CL) (n : Nat) (m0 : Mem) : KX := (endK f55 m0)
def S55_5 (call : CL) (n : Nat) (m0 : Mem) (y0 : AV) (m : Mem) : Rho := G55_5 call n m0 y0 m
def d55_5 (call : CL) (n : Nat) (m0 : Mem) (y0 : AV) (m : Mem) : Rho := evK call n b55_5 [(3, y0)] m (k55_5 call n m0) (x55_5 call n m0)
theorem l55_5 {call : CL} {n : Nat} {m0 : Mem} : d55_5 call n m0 = S55_5 call n m0 := by
  funext y0 m
  have h : d55_5 call n m0 y0 m = G55_5 call n m0 y0 m := Eq.mp (by kernel_rfl) (g55_5 call n m0 y0 m)
  exact h
def G55_2 (call : CL) (n : Nat) (m0 : Mem) (y0 y1 y2 : AV) (m : Mem) : Rho :=
  vK (aFieldAddr 1 1 y1) m fun a0 m1 =>
  loadK none a0 m1 fun a2 m3 =>
  binK .lss a2 (.int .i64 0) fun a4 =>
  gK a4 false (fun k => k y0 m3) m3 fun a5 m6 =>
  gK a4 false (fun k => vK (aFieldAddr 1 1 y1) m6 fun a7 m8 =>
  k a7 m8) m6 fun a9 m10 =>
  gK a4 false (fun k => loadK none a9 m10 fun a11 m12 =>
  k a11 m12) m10 fun a13 m14 =>
  gK a4 false (fun k => callK call (.func 58 [] []) false [a5, a13] m14 fun a15 m16 =>
  k a15 m16) m14 fun a17 m18 =>
  gK a4 false (fun k => k y2 m18) m18 fun a19 m20 =>
  gK a4 false (fun k => eqvK ⟨[.b], false⟩ false a17 a19 fun a21 =>
  k a21 m20) m20 fun a22 m23 =>
  pickK a4 (some (.bool true)) (some a22) fun a24 =>
  retK false false m0 [a24] m23
theorem g55_2 (call : CL) (n : Nat) (m0 : Mem) (b55_5 : C) (k55_5 : KN) (x55_5 : KX) (y0 y1 y2 : AV) (m : Mem) : evK call n b55_2 [(2, y0), (3, y1), (8, y2)] m (jn call n [3] b55_5 k55_5 x55_5) (blkK 0 (jn call n [3] b55_5 k55_5 x55_5) (endK f55 m0)) = G55_2 call n m0 y0 y1 y2 m := by kernel_rfl
def k55_2 (call : CL) (n : Nat) (m0 : Mem) : KN := (jn call n [3] b55_5 (k55_5 call n m0) (x55_5 call n m0))
def x55_2 (call : CL) (n : Nat) (m0 : Mem) : KX := (blkK 0 (jn call n [3] b55_5 (k55_5 call n m0) (x55_5 call n m0)) (endK f55 m0))
def S55_2 (call : CL) (n : Nat) (m0 : Mem) (y0 y1 y2 : AV) (m : Mem) : Rho := G55_2 call n m0 y0 y1 y2 m
def d55_2 (call : CL) (n : Nat) (m0 : Mem) (y0 y1 y2 : AV) (m : Mem) : Rho := evK call n b55_2 [(2, y0), (3, y1), (8, y2)] m (k55_2 call n m0) (x55_2 call n m0)
theorem l55_2 {call : CL} {n : Nat} {m0 : Mem} : d55_2 call n m0 = S55_2 call n m0 := by
  funext y0 y1 y2 m
  have h : d55_2 call n m0 y0 y1 y2 m = G55_2 call n m0 y0 y1 y2 m := Eq.mp (by kernel_rfl) (g55_2 call n m0 b55_5 (k55_5 call n m0) (x55_5 call n m0) y0 y1 y2 m)
  exact h
def G55_0 (call : CL) (n : Nat) (kn : KN) (kx : KX) (y0 y1 y2 y3 : AV) (m : Mem) : Rho :=
  gK y2 true (fun k => vK (aFieldAddr 4 1 y1) m fun a0 m1 =>
  k a0 m1) m fun a2 m3 =>
  gK y2 true (fun k => loadK none a2 m3 fun a4 m5 =>
  k a4 m5) m3 fun a6 m7 =>
  gK y2 true (fun k => k y3 m7) m7 fun a8 m9 =>
  gK y2 true (fun k => vK (aIndexAddr m9 1 a6 a8) m9 fun a10 m11 =>
  k a10 m11) m9 fun a12 m13 =>
  gK y2 true (fun k => loadK none a12 m13 fun a14 m15 =>
  k a14 m15) m13 fun a16 m17 =>
  gK y2 true (fun k => binK .lss a16 (.int .i64 0) fun a18 =>
  k a18 m17) m17 fun a19 m20 =>
  gK y2 true (fun k => k a19 m20) m20 fun a21 m22 =>
  gK a21 false (fun k => k y0 m22) m22 fun a23 m24 =>
  gK a21 false (fun k => vK (aFieldAddr 4 1 y1) m24 fun a25 m26 =>
  k a25 m26) m24 fun a27 m28 =>
  gK a21 false (fun k => loadK none a27 m28 fun a29 m30 =>
  k a29 m30) m28 fun a31 m32 =>
  gK a21 false (fun k => k y3 m32) m32 fun a33 m34 =>
  gK a21 false (fun k => vK (aIndexAddr m34 1 a31 a33) m34 fun a35 m36 =>
  k a35 m36) m34 fun a37 m38 =>
  gK a21 false (fun k => loadK none a37 m38 fun a39 m40 =>
  k a39 m40) m38 fun a41 m42 =>
  gK a21 false (fun k => callK call (.func 58 [] []) false [a23, a41] m42 fun a43 m44 =>
  k a43 m44) m42 fun a45 m46 =>
  gK y2 true (fun k => pickK a21 (some (.bool true)) (some a45) fun a47 =>
  k a47 m46) m46 fun a48 m49 =>
  pickK y2 (some a48) (some (.bool false)) fun a50 =>
  binK .add y3 (.int .i64 1) fun a51 =>
  kn [(2, y0), (3, y1), (8, a50), (9, a51)] m49
theorem g55_0 (call : CL) (n : Nat) (kn : KN) (kx : KX) (y0 y1 y2 y3 : AV) (m : Mem) : evK call n b55_0 [(2, y0), (3, y1), (8, y2), (9, y3)] m kn kx = G55_0 call n kn kx y0 y1 y2 y3 m := by kernel_rfl
def k55_0 (call : CL) (n : Nat) (kn : KN) (kx : KX) : KN := kn
def x55_0 (call : CL) (n : Nat) (kn : KN) (kx : KX) : KX := kx
def S55_0 (call : CL) (n : Nat) (kn : KN) (kx : KX) (y0 y1 y2 y3 : AV) (m : Mem) : Rho := G55_0 call n kn kx y0 y1 y2 y3 m
def d55_0 (call : CL) (n : Nat) (kn : KN) (kx : KX) (y0 y1 y2 y3 : AV) (m : Mem) : Rho := evK call n b55_0 [(2, y0), (3, y1), (8, y2), (9, y3)] m (k55_0 call n kn kx) (x55_0 call n kn kx)
theorem l55_0 {call : CL} {n : Nat} {kn : KN} {kx : KX} : d55_0 call n kn kx = S55_0 call n kn kx := by
  funext y0 y1 y2 y3 m
  have h : d55_0 call n kn kx y0 y1 y2 y3 m = G55_0 call n kn kx y0 y1 y2 y3 m := Eq.mp (by kernel_rfl) (g55_0 call n kn kx y0 y1 y2 y3 m)
  exact h
def G55_1 (call : CL) (n : Nat) (kn : KN) (kx : KX) (Q55_0 : Y4) (y0 y1 y2 y3 : AV) (m : Mem) : Rho :=
  vK (aFieldAddr 4 1 y1) m fun a0 m1 =>
  loadK none a0 m1 fun a2 m3 =>
  vK (aLen m3 1 a2) m3 fun a4 m5 =>
  binK .lss y3 a4 fun a6 =>
  condK a6
  (Q55_0 y0 y1 y2 y3 m5)
  (kx (.ext 1) [(2, y0), (3, y1), (8, y2), (9, y3), (32, a6)] m5)
theorem g55_1 (call : CL) (n : Nat) (kn : KN) (kx : KX) (b55_0 : C) (y0 y1 y2 y3 : AV) (m : Mem) : evK call n (c55_1 b55_0) [(2, y0), (3, y1), (8, y2), (9, y3)] m kn kx = G55_1 call n kn kx (fun x0 x1 x2 x3 m => evK call n b55_0 [(2, x0), (3, x1), (8, x2), (9, x3)] m kn kx) y0 y1 y2 y3 m := by kernel_rfl
def S55_1 (call : CL) (n : Nat) (kn : KN) (kx : KX) (y0 y1 y2 y3 : AV) (m : Mem) : Rho := G55_1 call n kn kx (S55_0 call n kn kx) y0 y1 y2 y3 m
def d55_1 (call : CL) (n : Nat) (kn : KN) (kx : KX) (y0 y1 y2 y3 : AV) (m : Mem) : Rho := evK call n b55_1 [(2, y0), (3, y1), (8, y2), (9, y3)] m kn kx
theorem l55_1 {call : CL} {n : Nat} : d55_1 call n = S55_1 call n := by
  funext kn kx y0 y1 y2 y3 m
  have h : d55_1 call n kn kx y0 y1 y2 y3 m = G55_1 call n kn kx (d55_0 call n kn kx) y0 y1 y2 y3 m := Eq.mp (by kernel_rfl) (g55_1 call n kn kx b55_0 y0 y1 y2 y3 m)
  rw [l55_0] at h; exact h
def G55_4 (call : CL) (n : Nat) (m0 : Mem) (y0 y1 y2 : AV) (m : Mem) : Rho :=
  vK (aIndexAddrA 2 1 y2 (.int .i64 0)) m fun a0 m1 =>
  loadK none a0 m1 fun a2 m3 =>
  vK (aFieldAddr 1 1 y1) m3 fun a4 m5 =>
  loadK none a4 m5 fun a6 m7 =>
  binK .shl (.int .i64 1) a6 fun a8 =>
  binK .or y0 a8 fun a9 =>
  binK .shr a2 a9 fun a10 =>
  binK .and a10 (.int .u64 1) fun a11 =>
  binK .eql a11 (.int .u64 1) fun a12 =>
  gK a12 false (fun k => vK (aIndexAddrA 2 1 y2 (.int .i64 0)) m7 fun a13 m14 =>
  k a13 m14) m7 fun a15 m16 =>
  gK a12 false (fun k => loadK none a15 m16 fun a17 m18 =>
  k a17 m18) m16 fun a19 m20 =>
  gK a12 false (fun k => k y0 m20) m20 fun a21 m22 =>
  gK a12 false (fun k => vK (aFieldAddr 1 1 y1) m22 fun a23 m24 =>
  k a23 m24) m22 fun a25 m26 =>
  gK a12 false (fun k => loadK none a25 m26 fun a27 m28 =>
  k a27 m28) m26 fun a29 m30 =>
  gK a12 false (fun k => binK .shl (.int .i64 1) a29 fun a31 =>
  k a31 m30) m30 fun a32 m33 =>
  gK a12 false (fun k => binK .andNot a21 a32 fun a34 =>
  k a34 m33) m33 fun a35 m36 =>
  gK a12 false (fun k => binK .shr a19 a35 fun a37 =>
  k a37 m36) m36 fun a38 m39 =>
  gK a12 false (fun k => binK .and a38 (.int .u64 1) fun a40 =>
  k a40 m39) m39 fun a41 m42 =>
  gK a12 false (fun k => binK .eql a41 (.int .u64 1) fun a43 =>
  k a43 m42) m42 fun a44 m45 =>
  pickK a12 (some (.bool true)) (some a44) fun a46 =>
  retK false false m0 [a46] m45
theorem g55_4 (call : CL) (n : Nat) (m0 : Mem) (b55_5 : C) (k55_5 : KN) (x55_5 : KX) (y0 y1 y2 : AV) (m : Mem) : evK call n b55_4 [(2, y0), (3, y1), (7, y2)] m (jn call n [3] b55_5 k55_5 x55_5) (blkK 0 (jn call n [3] b55_5 k55_5 x55_5) (endK f55 m0)) = G55_4 call n m0 y0 y1 y2 m := by kernel_rfl
def k55_4 (call : CL) (n : Nat) (m0 : Mem) : KN := (jn call n [3] b55_5 (k55_5 call n m0) (x55_5 call n m0))
def x55_4 (call : CL) (n : Nat) (m0 : Mem) : KX := (blkK 0 (jn call n [3] b55_5 (k55_5 call n m0) (x55_5 call n m0)) (endK f55 m0))
def S55_4 (call : CL) (n : Nat) (m0 : Mem) (y0 y1 y2 : AV) (m : Mem) : Rho := G55_4 call n m0 y0 y1 y2 m
def d55_4 (call : CL) (n : Nat) (m0 : Mem) (y0 y1 y2 : AV) (m : Mem) : Rho := evK call n b55_4 [(2, y0), (3, y1), (7, y2)] m (k55_4 call n m0) (x55_4 call n m0)
theorem l55_4 {call : CL} {n : Nat} {m0 : Mem} : d55_4 call n m0 = S55_4 call n m0 := by
  funext y0 y1 y2 m
  have h : d55_4 call n m0 y0 y1 y2 m = G55_4 call n m0 y0 y1 y2 m := Eq.mp (by kernel_rfl) (g55_4 call n m0 b55_5 (k55_5 call n m0) (x55_5 call n m0) y0 y1 y2 m)
  exact h
def G55 (call : CL) (n : Nat) (m0 : Mem) (B55_1 : KN → KX → Y4) (Q55_2 : Y3) (Q55_5 : Y1) (Q55_4 : Y3) (y0 y1 y2 : AV) (m : Mem) : Rho :=
  boxK y0 m fun a0 m1 =>
  loadK (some 5) a0 m1 fun a2 m3 =>
  callK call (.func 81 [] []) false [a2, y1] m3 fun a4 m5 =>
  newK [(.int .u64 0), (.int .u64 0)] m5 fun a6 m7 =>
  storeK 2 a6 a4 m7 fun a8 m9 =>
  vK (aFieldAddr 0 1 a0) m9 fun a10 m11 =>
  loadK none a10 m11 fun a12 m13 =>
  binK .eql a12 (.int .i64 0) fun a14 =>
  condK a14
  (vK (aFieldAddr 1 1 a0) m13 fun a15 m16 =>
  loadK none a15 m16 fun a17 m18 =>
  binK .lss a17 (.int .i64 0) fun a19 =>
  gK a19 false (fun k => k y2 m18) m18 fun a20 m21 =>
  gK a19 false (fun k => vK (aFieldAddr 1 1 a0) m21 fun a22 m23 =>
  k a22 m23) m21 fun a24 m25 =>
  gK a19 false (fun k => loadK none a24 m25 fun a26 m27 =>
  k a26 m27) m25 fun a28 m29 =>
  gK a19 false (fun k => callK call (.func 58 [] []) false [a20, a28] m29 fun a30 m31 =>
  k a30 m31) m29 fun a32 m33 =>
  pickK a19 (some (.bool true)) (some a32) fun a34 =>
  retK false false m0 [a34] m33)
  (binK .eql a12 (.int .i64 1) fun a35 =>
  condK a35
  (loopV [2, 3, 8, 9] none (fun vs m kn kx => unc vs fun x0 vs => unc vs fun x1 vs => unc vs fun x2 vs => unc vs fun x3 vs => unz vs (B55_1 kn kx x0 x1 x2 x3 m)) (blkK 1 (fun e m => keepK e [2, 3, 8] fun vs => unc vs fun x0 vs => unc vs fun x1 vs => unc vs fun x2 vs => unz vs (Q55_2 x0 x1 x2 m)) (blkK 0 (fun e m => keepK e [3] fun vs => unc vs fun x0 vs => unz vs (Q55_5 x0 m)) (endK f55 m0))) n [y2, a0, (.bool true), (.int .i64 0)] m13)
  (binK .eql a12 (.int .i64 2) fun a36 =>
  condK a36
  (vK (aIndexAddrA 2 1 a6 (.int .i64 0)) m13 fun a37 m38 =>
  loadK none a37 m38 fun a39 m40 =>
  binK .shr a39 y2 fun a41 =>
  binK .and a41 (.int .u64 1) fun a42 =>
  binK .eql a42 (.int .u64 1) fun a43 =>
  gK a43 true (fun k => vK (aIndexAddrA 2 1 a6 (.int .i64 1)) m40 fun a44 m45 =>
  k a44 m45) m40 fun a46 m47 =>
  gK a43 true (fun k => loadK none a46 m47 fun a48 m49 =>
  k a48 m49) m47 fun a50 m51 =>
  gK a43 true (fun k => k y2 m51) m51 fun a52 m53 =>
  gK a43 true (fun k => binK .shr a50 a52 fun a54 =>
  k a54 m53) m53 fun a55 m56 =>
  gK a43 true (fun k => binK .and a55 (.int .u64 1) fun a57 =>
  k a57 m56) m56 fun a58 m59 =>
  gK a43 true (fun k => binK .eql a58 (.int .u64 1) fun a60 =>
  k a60 m59) m59 fun a61 m62 =>
  pickK a43 (some a61) (some (.bool false)) fun a63 =>
  retK false false m0 [a63] m62)
  (binK .eql a12 (.int .i64 3) fun a64 =>
  condK a64
  (vK (aIndexAddrA 2 1 a6 (.int .i64 0)) m13 fun a65 m66 =>
  loadK none a65 m66 fun a67 m68 =>
  binK .shr a67 y2 fun a69 =>
  binK .and a69 (.int .u64 1) fun a70 =>
  binK .eql a70 (.int .u64 1) fun a71 =>
  gK a71 false (fun k => vK (aIndexAddrA 2 1 a6 (.int .i64 1)) m68 fun a72 m73 =>
  k a72 m73) m68 fun a74 m75 =>
  gK a71 false (fun k => loadK none a74 m75 fun a76 m77 =>
  k a76 m77) m75 fun a78 m79 =>
  gK a71 false (fun k => k y2 m79) m79 fun a80 m81 =>
  gK a71 false (fun k => binK .shr a78 a80 fun a82 =>
  k a82 m81) m81 fun a83 m84 =>
  gK a71 false (fun k => binK .and a83 (.int .u64 1) fun a85 =>
  k a85 m84) m84 fun a86 m87 =>
  gK a71 false (fun k => binK .eql a86 (.int .u64 1) fun a88 =>
  k a88 m87) m87 fun a89 m90 =>
  pickK a71 (some (.bool true)) (some a89) fun a91 =>
  retK false false m0 [a91] m90)
  (binK .eql a12 (.int .i64 4) fun a92 =>
  condK a92
  (vK (aFieldAddr 1 1 a0) m13 fun a93 m94 =>
  loadK none a93 m94 fun a95 m96 =>
  binK .lss a95 (.int .i64 0) fun a97 =>
  gK a97 false (fun k => vK (aFieldAddr 1 1 a0) m96 fun a98 m99 =>
  k a98 m99) m96 fun a100 m101 =>
  gK a97 false (fun k => loadK none a100 m101 fun a102 m103 =>
  k a102 m103) m101 fun a104 m105 =>
  gK a97 false (fun k => binK .gtr a104 (.int .i64 5) fun a106 =>
  k a106 m105) m105 fun a107 m108 =>
  pickK a97 (some (.bool true)) (some a107) fun a109 =>
  condK a109
  (vK (aIndexAddrA 2 1 a6 (.int .i64 0)) m108 fun a110 m111 =>
  loadK none a110 m111 fun a112 m113 =>
  binK .shr a112 y2 fun a114 =>
  binK .and a114 (.int .u64 1) fun a115 =>
  binK .eql a115 (.int .u64 1) fun a116 =>
  retK false false m0 [a116] m113)
  (Q55_4 y2 a0 a6 m108))
  (binK .eql a12 (.int .i64 5) fun a117 =>
  condK a117
  (loadK (some 5) a0 m13 fun a118 m119 =>
  vK (aIndexAddrA 2 1 a6 (.int .i64 0)) m119 fun a120 m121 =>
  loadK none a120 m121 fun a122 m123 =>
  callK call (.func 82 [] []) false [a118, a122, y2] m123 fun a124 m125 =>
  retK false false m0 [a124] m125)
  (Q55_5 a0 m13))))))
theorem g55 (call : CL) (n : Nat) (m0 : Mem) (b55_1 : C) (b55_2 : C) (b55_4 : C) (b55_5 : C) (y0 y1 y2 : AV) (m : Mem) : evK call n (c55 b55_1 b55_2 b55_4 b55_5) [(0, y0), (1, y1), (2, y2)] m (fun e m => endK f55 m0 .nrm e m) (endK f55 m0) = G55 call n m0 (fun kn kx x0 x1 x2 x3 m => evK call n b55_1 [(2, x0), (3, x1), (8, x2), (9, x3)] m kn kx) (fun x0 x1 x2 m => evK call n b55_2 [(2, x0), (3, x1), (8, x2)] m (jn call n [3] b55_5 (fun e m => endK f55 m0 .nrm e m) (endK f55 m0)) (blkK 0 (jn call n [3] b55_5 (fun e m => endK f55 m0 .nrm e m) (endK f55 m0)) (endK f55 m0))) (fun x0 m => evK call n b55_5 [(3, x0)] m (fun e m => endK f55 m0 .nrm e m) (endK f55 m0)) (fun x0 x1 x2 m => evK call n b55_4 [(2, x0), (3, x1), (7, x2)] m (jn call n [3] b55_5 (fun e m => endK f55 m0 .nrm e m) (endK f55 m0)) (blkK 0 (jn call n [3] b55_5 (fun e m => endK f55 m0 .nrm e m) (endK f55 m0)) (endK f55 m0))) y0 y1 y2 m := by kernel_rfl
def S55 (call : CL) (n : Nat) (m0 : Mem) (y0 y1 y2 : AV) : Rho := G55 call n m0 (S55_1 call n) (S55_2 call n m0) (S55_5 call n m0) (S55_4 call n m0) y0 y1 y2 { m0 with bad := none }
theorem s55 (call : CL) (n : Nat) (m0 : Mem) (y0 y1 y2 : AV) : bodyK call n f55 [y0, y1, y2] m0 = S55 call n m0 y0 y1 y2 :=
  have h : bodyK call n f55 [y0, y1, y2] m0 = G55 call n m0 (d55_1 call n) (d55_2 call n m0) (d55_5 call n m0) (d55_4 call n m0) y0 y1 y2 { m0 with bad := none } := Eq.mp (by kernel_rfl) (g55 call n m0 b55_1 b55_2 b55_4 b55_5 y0 y1 y2 { m0 with bad := none })
  by rw [l55_1, l55_2, l55_5, l55_4] at h; exact h
def F55 : SF := fun call n vs m0 => unc vs fun x0 vs => unc vs fun x1 vs => unc vs fun x2 vs => unz vs (S55 call n m0 x0 x1 x2)
theorem F55_ok {orc : List AV → Mem → Option (AV × Mem)} : SOk 55 { f55 with orc := orc } F55 := by
  intro call n vs m0 ho r h0
  simp only [F55] at h0
  obtain ⟨y0, v0, rfl, h1⟩ := unc_some h0
  obtain ⟨y1, v1, rfl, h2⟩ := unc_some h1
  obtain ⟨y2, v2, rfl, h3⟩ := unc_some h2
  obtain ⟨rfl, hz⟩ := unz_some h3
  exact bodyK_le ho rfl r (Eq.mp (by kernel_rfl) ((s55 call n m0 y0 y1 y2).trans hz))

-- resolvent/resolventlaw16.bit
def G58 (call : CL) (n : Nat) (m0 : Mem) (y0 y1 : AV) (m : Mem) : Rho :=
  binK .geq y1 (.int .i64 0) fun a0 =>
  gK a0 true (fun k => k y1 m) m fun a1 m2 =>
  gK a0 true (fun k => binK .lss a1 (.int .i64 6) fun a3 =>
  k a3 m2) m2 fun a4 m5 =>
  pickK a0 (some a4) (some (.bool false)) fun a6 =>
  gK a6 true (fun k => k y0 m5) m5 fun a7 m8 =>
  gK a6 true (fun k => k y1 m8) m8 fun a9 m10 =>
  gK a6 true (fun k => binK .shr a7 a9 fun a11 =>
  k a11 m10) m10 fun a12 m13 =>
  gK a6 true (fun k => binK .and a12 (.int .i64 1) fun a14 =>
  k a14 m13) m13 fun a15 m16 =>
  gK a6 true (fun k => binK .eql a15 (.int .i64 1) fun a17 =>
  k a17 m16) m16 fun a18 m19 =>
  pickK a6 (some a18) (some (.bool false)) fun a20 =>
  retK false false m0 [a20] m19
theorem g58 (call : CL) (n : Nat) (m0 : Mem) (y0 y1 : AV) (m : Mem) : evK call n b58 [(0, y0), (1, y1)] m (fun e m => endK f58 m0 .nrm e m) (endK f58 m0) = G58 call n m0 y0 y1 m := by kernel_rfl
def S58 (call : CL) (n : Nat) (m0 : Mem) (y0 y1 : AV) : Rho := G58 call n m0 y0 y1 { m0 with bad := none }
theorem s58 (call : CL) (n : Nat) (m0 : Mem) (y0 y1 : AV) : bodyK call n f58 [y0, y1] m0 = S58 call n m0 y0 y1 :=
  have h : bodyK call n f58 [y0, y1] m0 = G58 call n m0 y0 y1 { m0 with bad := none } := Eq.mp (by kernel_rfl) (g58 call n m0 y0 y1 { m0 with bad := none })
  h
def F58 : SF := fun call n vs m0 => unc vs fun x0 vs => unc vs fun x1 vs => unz vs (S58 call n m0 x0 x1)
theorem F58_ok {orc : List AV → Mem → Option (AV × Mem)} : SOk 58 { f58 with orc := orc } F58 := by
  intro call n vs m0 ho r h0
  simp only [F58] at h0
  obtain ⟨y0, v0, rfl, h1⟩ := unc_some h0
  obtain ⟨y1, v1, rfl, h2⟩ := unc_some h1
  obtain ⟨rfl, hz⟩ := unz_some h2
  exact bodyK_le ho rfl r (Eq.mp (by kernel_rfl) ((s58 call n m0 y0 y1).trans hz))

-- slices.Equal[[]resolvent/pos.node,resolvent/pos.node]
def G59_4 (call : CL) (n : Nat) (m0 : Mem) (m : Mem) : Rho :=
  retK false false m0 [(.bool true)] m
theorem g59_4 (call : CL) (n : Nat) (m0 : Mem) (m : Mem) : evK call n b59_4 [] m (fun e m => endK f59 m0 .nrm e m) (endK f59 m0) = G59_4 call n m0 m := by kernel_rfl
def k59_4 (call : CL) (n : Nat) (m0 : Mem) : KN := (fun e m => endK f59 m0 .nrm e m)
def x59_4 (call : CL) (n : Nat) (m0 : Mem) : KX := (endK f59 m0)
def S59_4 (call : CL) (n : Nat) (m0 : Mem) (m : Mem) : Rho := G59_4 call n m0 m
def d59_4 (call : CL) (n : Nat) (m0 : Mem) (m : Mem) : Rho := evK call n b59_4 [] m (k59_4 call n m0) (x59_4 call n m0)
theorem l59_4 {call : CL} {n : Nat} {m0 : Mem} : d59_4 call n m0 = S59_4 call n m0 := by
  funext m
  have h : d59_4 call n m0 m = G59_4 call n m0 m := Eq.mp (by kernel_rfl) (g59_4 call n m0 m)
  exact h
def G59_1 (call : CL) (n : Nat) (kn : KN) (kx : KX) (y0 y1 y2 y3 : AV) (m : Mem) : Rho :=
  binK .add y3 (.int .i64 1) fun a0 =>
  kn [(0, y0), (1, y1), (12, y2), (13, a0)] m
theorem g59_1 (call : CL) (n : Nat) (kn : KN) (kx : KX) (y0 y1 y2 y3 : AV) (m : Mem) : evK call n b59_1 [(0, y0), (1, y1), (12, y2), (13, y3)] m kn kx = G59_1 call n kn kx y0 y1 y2 y3 m := by kernel_rfl
def k59_1 (call : CL) (n : Nat) (kn : KN) (kx : KX) : KN := kn
def x59_1 (call : CL) (n : Nat) (kn : KN) (kx : KX) : KX := kx
def S59_1 (call : CL) (n : Nat) (kn : KN) (kx : KX) (y0 y1 y2 y3 : AV) (m : Mem) : Rho := G59_1 call n kn kx y0 y1 y2 y3 m
def d59_1 (call : CL) (n : Nat) (kn : KN) (kx : KX) (y0 y1 y2 y3 : AV) (m : Mem) : Rho := evK call n b59_1 [(0, y0), (1, y1), (12, y2), (13, y3)] m (k59_1 call n kn kx) (x59_1 call n kn kx)
theorem l59_1 {call : CL} {n : Nat} {kn : KN} {kx : KX} : d59_1 call n kn kx = S59_1 call n kn kx := by
  funext y0 y1 y2 y3 m
  have h : d59_1 call n kn kx y0 y1 y2 y3 m = G59_1 call n kn kx y0 y1 y2 y3 m := Eq.mp (by kernel_rfl) (g59_1 call n kn kx y0 y1 y2 y3 m)
  exact h
def G59_2 (call : CL) (n : Nat) (kn : KN) (kx : KX) (Q59_1 : Y4) (y0 y1 y2 y3 : AV) (m : Mem) : Rho :=
  vK (aIndexAddr m 3 y0 y3) m fun a0 m1 =>
  loadK (some 3) a0 m1 fun a2 m3 =>
  vK (aIndexAddr m3 3 y1 y3) m3 fun a4 m5 =>
  loadK (some 3) a4 m5 fun a6 m7 =>
  eqvK ⟨[.i, .i, .i], true⟩ true a2 a6 fun a8 =>
  condK a8
  (kx .ret [(4, (.bool false))] m7)
  (Q59_1 y0 y1 y2 y3 m7)
theorem g59_2 (call : CL) (n : Nat) (kn : KN) (kx : KX) (b59_1 : C) (y0 y1 y2 y3 : AV) (m : Mem) : evK call n (c59_2 b59_1) [(0, y0), (1, y1), (12, y2), (13, y3)] m kn kx = G59_2 call n kn kx (fun x0 x1 x2 x3 m => evK call n b59_1 [(0, x0), (1, x1), (12, x2), (13, x3)] m kn kx) y0 y1 y2 y3 m := by kernel_rfl
def k59_2 (call : CL) (n : Nat) (kn : KN) (kx : KX) : KN := kn
def x59_2 (call : CL) (n : Nat) (kn : KN) (kx : KX) : KX := kx
def S59_2 (call : CL) (n : Nat) (kn : KN) (kx : KX) (y0 y1 y2 y3 : AV) (m : Mem) : Rho := G59_2 call n kn kx (S59_1 call n kn kx) y0 y1 y2 y3 m
def d59_2 (call : CL) (n : Nat) (kn : KN) (kx : KX) (y0 y1 y2 y3 : AV) (m : Mem) : Rho := evK call n b59_2 [(0, y0), (1, y1), (12, y2), (13, y3)] m (k59_2 call n kn kx) (x59_2 call n kn kx)
theorem l59_2 {call : CL} {n : Nat} {kn : KN} {kx : KX} : d59_2 call n kn kx = S59_2 call n kn kx := by
  funext y0 y1 y2 y3 m
  have h : d59_2 call n kn kx y0 y1 y2 y3 m = G59_2 call n kn kx (d59_1 call n kn kx) y0 y1 y2 y3 m := Eq.mp (by kernel_rfl) (g59_2 call n kn kx b59_1 y0 y1 y2 y3 m)
  rw [l59_1] at h; exact h
def G59_3 (call : CL) (n : Nat) (kn : KN) (kx : KX) (Q59_2 : Y4) (y0 y1 y2 y3 : AV) (m : Mem) : Rho :=
  binK .lss y3 y2 fun a0 =>
  condK a0
  (Q59_2 y0 y1 y2 y3 m)
  (kx (.ext 0) [(0, y0), (1, y1), (12, y2), (13, y3), (14, a0)] m)
theorem g59_3 (call : CL) (n : Nat) (kn : KN) (kx : KX) (b59_2 : C) (y0 y1 y2 y3 : AV) (m : Mem) : evK call n (c59_3 b59_2) [(0, y0), (1, y1), (12, y2), (13, y3)] m kn kx = G59_3 call n kn kx (fun x0 x1 x2 x3 m => evK call n b59_2 [(0, x0), (1, x1), (12, x2), (13, x3)] m kn kx) y0 y1 y2 y3 m := by kernel_rfl
def S59_3 (call : CL) (n : Nat) (kn : KN) (kx : KX) (y0 y1 y2 y3 : AV) (m : Mem) : Rho := G59_3 call n kn kx (S59_2 call n kn kx) y0 y1 y2 y3 m
def d59_3 (call : CL) (n : Nat) (kn : KN) (kx : KX) (y0 y1 y2 y3 : AV) (m : Mem) : Rho := evK call n b59_3 [(0, y0), (1, y1), (12, y2), (13, y3)] m kn kx
theorem l59_3 {call : CL} {n : Nat} : d59_3 call n = S59_3 call n := by
  funext kn kx y0 y1 y2 y3 m
  have h : d59_3 call n kn kx y0 y1 y2 y3 m = G59_3 call n kn kx (d59_2 call n kn kx) y0 y1 y2 y3 m := Eq.mp (by kernel_rfl) (g59_3 call n kn kx b59_2 y0 y1 y2 y3 m)
  rw [l59_2] at h; exact h
def G59_5 (call : CL) (n : Nat) (m0 : Mem) (B59_3 : KN → KX → Y4) (Q59_4 : Y0) (y0 y1 : AV) (m : Mem) : Rho :=
  vK (aLen m 1 y0) m fun a0 m1 =>
  loopV [0, 1, 12, 13] none (fun vs m kn kx => unc vs fun x0 vs => unc vs fun x1 vs => unc vs fun x2 vs => unc vs fun x3 vs => unz vs (B59_3 kn kx x0 x1 x2 x3 m)) (blkK 0 (fun e m => keepK e [] fun vs => unz vs (Q59_4 m)) (endK f59 m0)) n [y0, y1, a0, (.int .i64 0)] m1
theorem g59_5 (call : CL) (n : Nat) (m0 : Mem) (b59_3 : C) (b59_4 : C) (y0 y1 : AV) (m : Mem) : evK call n (c59_5 b59_3 b59_4) [(0, y0), (1, y1)] m (fun e m => endK f59 m0 .nrm e m) (endK f59 m0) = G59_5 call n m0 (fun kn kx x0 x1 x2 x3 m => evK call n b59_3 [(0, x0), (1, x1), (12, x2), (13, x3)] m kn kx) (fun m => evK call n b59_4 [] m (fun e m => endK f59 m0 .nrm e m) (endK f59 m0)) y0 y1 m := by kernel_rfl
def k59_5 (call : CL) (n : Nat) (m0 : Mem) : KN := (fun e m => endK f59 m0 .nrm e m)
def x59_5 (call : CL) (n : Nat) (m0 : Mem) : KX := (endK f59 m0)
def S59_5 (call : CL) (n : Nat) (m0 : Mem) (y0 y1 : AV) (m : Mem) : Rho := G59_5 call n m0 (S59_3 call n) (S59_4 call n m0) y0 y1 m
def d59_5 (call : CL) (n : Nat) (m0 : Mem) (y0 y1 : AV) (m : Mem) : Rho := evK call n b59_5 [(0, y0), (1, y1)] m (k59_5 call n m0) (x59_5 call n m0)
theorem l59_5 {call : CL} {n : Nat} {m0 : Mem} : d59_5 call n m0 = S59_5 call n m0 := by
  funext y0 y1 m
  have h : d59_5 call n m0 y0 y1 m = G59_5 call n m0 (d59_3 call n) (d59_4 call n m0) y0 y1 m := Eq.mp (by kernel_rfl) (g59_5 call n m0 b59_3 b59_4 y0 y1 m)
  rw [l59_3, l59_4] at h; exact h
def G59 (call : CL) (n : Nat) (m0 : Mem) (Q59_5 : Y2) (y0 y1 : AV) (m : Mem) : Rho :=
  vK (aLen m 1 y0) m fun a0 m1 =>
  vK (aLen m1 1 y1) m1 fun a2 m3 =>
  binK .neq a0 a2 fun a4 =>
  condK a4
  (retK false false m0 [(.bool false)] m3)
  (Q59_5 y0 y1 m3)
theorem g59 (call : CL) (n : Nat) (m0 : Mem) (b59_5 : C) (y0 y1 : AV) (m : Mem) : evK call n (c59 b59_5) [(0, y0), (1, y1)] m (fun e m => endK f59 m0 .nrm e m) (endK f59 m0) = G59 call n m0 (fun x0 x1 m => evK call n b59_5 [(0, x0), (1, x1)] m (fun e m => endK f59 m0 .nrm e m) (endK f59 m0)) y0 y1 m := by kernel_rfl
def S59 (call : CL) (n : Nat) (m0 : Mem) (y0 y1 : AV) : Rho := G59 call n m0 (S59_5 call n m0) y0 y1 { m0 with bad := none }
theorem s59 (call : CL) (n : Nat) (m0 : Mem) (y0 y1 : AV) : bodyK call n f59 [y0, y1] m0 = S59 call n m0 y0 y1 :=
  have h : bodyK call n f59 [y0, y1] m0 = G59 call n m0 (d59_5 call n m0) y0 y1 { m0 with bad := none } := Eq.mp (by kernel_rfl) (g59 call n m0 b59_5 y0 y1 { m0 with bad := none })
  by rw [l59_5] at h; exact h
def F59 : SF := fun call n vs m0 => unc vs fun x0 vs => unc vs fun x1 vs => unz vs (S59 call n m0 x0 x1)
theorem F59_ok {orc : List AV → Mem → Option (AV × Mem)} : SOk 59 { f59 with orc := orc } F59 := by
  intro call n vs m0 ho r h0
  simp only [F59] at h0
  obtain ⟨y0, v0, rfl, h1⟩ := unc_some h0
  obtain ⟨y1, v1, rfl, h2⟩ := unc_some h1
  obtain ⟨rfl, hz⟩ := unz_some h2
  exact bodyK_le ho rfl r (Eq.mp (by kernel_rfl) ((s59 call n m0 y0 y1).trans hz))

-- (*resolvent/pos.table).with
def G60_2 (call : CL) (n : Nat) (m0 : Mem) (y0 y1 y2 y3 : AV) (m : Mem) : Rho :=
  vK (aFieldAddr 1 1 y3) m fun a0 m1 =>
  loadK none a0 m1 fun a2 m3 =>
  callK call (.func 60 [] []) false [y0, a2, y1, y2] m3 fun a4 m5 =>
  vK (aFieldAddr 0 1 y3) m5 fun a6 m7 =>
  loadK none a6 m7 fun a8 m9 =>
  vK (aFieldAddr 2 1 y3) m9 fun a10 m11 =>
  loadK none a10 m11 fun a12 m13 =>
  callK call (.func 60 [] []) false [y0, a12, y1, y2] m13 fun a14 m15 =>
  buildK [(.int .i64 0), (.int .i64 0), (.int .i64 0)] [(0, 1, AV.untag1 a8), (1, 1, AV.untag1 a4), (2, 1, AV.untag1 a14)] fun a16 =>
  callK call (.func 50 [] []) false [y0, a16] m15 fun a17 m18 =>
  cond (stayK [m5, m15, m18] [(fun m => m.load none a6, a8, 0, 2, true)]) (retK false false m0 [a17] m18) none
theorem g60_2 (call : CL) (n : Nat) (m0 : Mem) (y0 y1 y2 y3 : AV) (m : Mem) : evK call n b60_2 [(0, y0), (2, y1), (3, y2), (9, y3)] m (fun e m => endK f60 m0 .nrm e m) (endK f60 m0) = G60_2 call n m0 y0 y1 y2 y3 m := by kernel_rfl
def k60_2 (call : CL) (n : Nat) (m0 : Mem) : KN := (fun e m => endK f60 m0 .nrm e m)
def x60_2 (call : CL) (n : Nat) (m0 : Mem) : KX := (endK f60 m0)
def S60_2 (call : CL) (n : Nat) (m0 : Mem) (y0 y1 y2 y3 : AV) (m : Mem) : Rho := G60_2 call n m0 y0 y1 y2 y3 m
def d60_2 (call : CL) (n : Nat) (m0 : Mem) (y0 y1 y2 y3 : AV) (m : Mem) : Rho := evK call n b60_2 [(0, y0), (2, y1), (3, y2), (9, y3)] m (k60_2 call n m0) (x60_2 call n m0)
theorem l60_2 {call : CL} {n : Nat} {m0 : Mem} : d60_2 call n m0 = S60_2 call n m0 := by
  funext y0 y1 y2 y3 m
  have h : d60_2 call n m0 y0 y1 y2 y3 m = G60_2 call n m0 y0 y1 y2 y3 m := Eq.mp (by kernel_rfl) (g60_2 call n m0 y0 y1 y2 y3 m)
  exact h
def G60_0 (call : CL) (n : Nat) (m0 : Mem) (y0 : AV) (m : Mem) : Rho :=
  vK (aFieldAddr 1 1 y0) m fun a0 m1 =>
  loadK none a0 m1 fun a2 m3 =>
  retK false false m0 [a2] m3
theorem g60_0 (call : CL) (n : Nat) (m0 : Mem) (b60_2 : C) (k60_2 : KN) (x60_2 : KX) (y0 : AV) (m : Mem) : evK call n b60_0 [(9, y0)] m (jn call n [0, 2, 3, 9] b60_2 k60_2 x60_2) (endK f60 m0) = G60_0 call n m0 y0 m := by kernel_rfl
def k60_0 (call : CL) (n : Nat) (m0 : Mem) : KN := (jn call n [0, 2, 3, 9] b60_2 (k60_2 call n m0) (x60_2 call n m0))
def x60_0 (call : CL) (n : Nat) (m0 : Mem) : KX := (endK f60 m0)
def S60_0 (call : CL) (n : Nat) (m0 : Mem) (y0 : AV) (m : Mem) : Rho := G60_0 call n m0 y0 m
def d60_0 (call : CL) (n : Nat) (m0 : Mem) (y0 : AV) (m : Mem) : Rho := evK call n b60_0 [(9, y0)] m (k60_0 call n m0) (x60_0 call n m0)
theorem l60_0 {call : CL} {n : Nat} {m0 : Mem} : d60_0 call n m0 = S60_0 call n m0 := by
  funext y0 m
  have h : d60_0 call n m0 y0 m = G60_0 call n m0 y0 m := Eq.mp (by kernel_rfl) (g60_0 call n m0 b60_2 (k60_2 call n m0) (x60_2 call n m0) y0 m)
  exact h
def G60_3 (call : CL) (n : Nat) (m0 : Mem) (Q60_0 : Y1) (Q60_2 : Y4) (y0 y1 y2 y3 : AV) (m : Mem) : Rho :=
  nilK y0 fun a0 =>
  vK (aFieldAddr 0 1 a0) m fun a1 m2 =>
  loadK none a1 m2 fun a3 m4 =>
  binK .sub y1 (.int .i64 2) fun a5 =>
  vK (aIndexAddr m4 3 a3 a5) m4 fun a6 m7 =>
  loadK (some 3) a6 m7 fun a8 m9 =>
  newK [(.int .i64 0), (.int .i64 0), (.int .i64 0)] m9 fun a10 m11 =>
  storeK 3 a10 a8 m11 fun a12 m13 =>
  vK (aFieldAddr 0 1 a10) m13 fun a14 m15 =>
  loadK none a14 m15 fun a16 m17 =>
  binK .eql a16 y2 fun a18 =>
  condK a18
  (condK y3
  (vK (aFieldAddr 2 1 a10) m17 fun a19 m20 =>
  loadK none a19 m20 fun a21 m22 =>
  retK false false m0 [a21] m22)
  (Q60_0 a10 m17))
  (Q60_2 y0 y2 y3 a10 m17)
theorem g60_3 (call : CL) (n : Nat) (m0 : Mem) (b60_0 : C) (b60_2 : C) (y0 y1 y2 y3 : AV) (m : Mem) : evK call n (c60_3 b60_0 b60_2) [(0, y0), (1, y1), (2, y2), (3, y3)] m (fun e m => endK f60 m0 .nrm e m) (endK f60 m0) = G60_3 call n m0 (fun x0 m => evK call n b60_0 [(9, x0)] m (jn call n [0, 2, 3, 9] b60_2 (fun e m => endK f60 m0 .nrm e m) (endK f60 m0)) (endK f60 m0)) (fun x0 x1 x2 x3 m => evK call n b60_2 [(0, x0), (2, x1), (3, x2), (9, x3)] m (fun e m => endK f60 m0 .nrm e m) (endK f60 m0)) y0 y1 y2 y3 m := by kernel_rfl
def k60_3 (call : CL) (n : Nat) (m0 : Mem) : KN := (fun e m => endK f60 m0 .nrm e m)
def x60_3 (call : CL) (n : Nat) (m0 : Mem) : KX := (endK f60 m0)
def S60_3 (call : CL) (n : Nat) (m0 : Mem) (y0 y1 y2 y3 : AV) (m : Mem) : Rho := G60_3 call n m0 (S60_0 call n m0) (S60_2 call n m0) y0 y1 y2 y3 m
def d60_3 (call : CL) (n : Nat) (m0 : Mem) (y0 y1 y2 y3 : AV) (m : Mem) : Rho := evK call n b60_3 [(0, y0), (1, y1), (2, y2), (3, y3)] m (k60_3 call n m0) (x60_3 call n m0)
theorem l60_3 {call : CL} {n : Nat} {m0 : Mem} : d60_3 call n m0 = S60_3 call n m0 := by
  funext y0 y1 y2 y3 m
  have h : d60_3 call n m0 y0 y1 y2 y3 m = G60_3 call n m0 (d60_0 call n m0) (d60_2 call n m0) y0 y1 y2 y3 m := Eq.mp (by kernel_rfl) (g60_3 call n m0 b60_0 b60_2 y0 y1 y2 y3 m)
  rw [l60_0, l60_2] at h; exact h
def G60 (call : CL) (n : Nat) (m0 : Mem) (Q60_3 : Y4) (y0 y1 y2 y3 : AV) (m : Mem) : Rho :=
  callK call (.func 76 [] []) false [y0, y1] m fun a0 m1 =>
  binK .gtr a0 y2 fun a2 =>
  condK a2
  (retK false false m0 [y1] m1)
  (Q60_3 y0 y1 y2 y3 m1)
theorem g60 (call : CL) (n : Nat) (m0 : Mem) (b60_3 : C) (y0 y1 y2 y3 : AV) (m : Mem) : evK call n (c60 b60_3) [(0, y0), (1, y1), (2, y2), (3, y3)] m (fun e m => endK f60 m0 .nrm e m) (endK f60 m0) = G60 call n m0 (fun x0 x1 x2 x3 m => evK call n b60_3 [(0, x0), (1, x1), (2, x2), (3, x3)] m (fun e m => endK f60 m0 .nrm e m) (endK f60 m0)) y0 y1 y2 y3 m := by kernel_rfl
def S60 (call : CL) (n : Nat) (m0 : Mem) (y0 y1 y2 y3 : AV) : Rho := G60 call n m0 (S60_3 call n m0) y0 y1 y2 y3 { m0 with bad := none }
theorem s60 (call : CL) (n : Nat) (m0 : Mem) (y0 y1 y2 y3 : AV) : bodyK call n f60 [y0, y1, y2, y3] m0 = S60 call n m0 y0 y1 y2 y3 :=
  have h : bodyK call n f60 [y0, y1, y2, y3] m0 = G60 call n m0 (d60_3 call n m0) y0 y1 y2 y3 { m0 with bad := none } := Eq.mp (by kernel_rfl) (g60 call n m0 b60_3 y0 y1 y2 y3 { m0 with bad := none })
  by rw [l60_3] at h; exact h
def F60 : SF := fun call n vs m0 => unc vs fun x0 vs => unc vs fun x1 vs => unc vs fun x2 vs => unc vs fun x3 vs => unz vs (S60 call n m0 x0 x1 x2 x3)
theorem F60_ok {orc : List AV → Mem → Option (AV × Mem)} : SOk 60 { f60 with orc := orc } F60 := by
  intro call n vs m0 ho r h0
  simp only [F60] at h0
  obtain ⟨y0, v0, rfl, h1⟩ := unc_some h0
  obtain ⟨y1, v1, rfl, h2⟩ := unc_some h1
  obtain ⟨y2, v2, rfl, h3⟩ := unc_some h2
  obtain ⟨y3, v3, rfl, h4⟩ := unc_some h3
  obtain ⟨rfl, hz⟩ := unz_some h4
  exact bodyK_le ho rfl r (Eq.mp (by kernel_rfl) ((s60 call n m0 y0 y1 y2 y3).trans hz))

-- (*resolvent/pos.table).both$1
def G75_2 (call : CL) (n : Nat) (m0 : Mem) (y0 y1 y2 y3 y4 y5 : AV) (m : Mem) : Rho :=
  loadK none y3 m fun a0 m1 =>
  callK call (.func 76 [] []) false [a0, y0] m1 fun a2 m3 =>
  loadK none y3 m3 fun a4 m5 =>
  callK call (.func 76 [] []) false [a4, y1] m5 fun a6 m7 =>
  min2K a2 a6 fun a8 =>
  cond (stayK [m, m3, m7] [(fun m => m.load none y3, a4, 0, 2, true)]) (loadK none y3 m7 fun a9 m10 =>
  callK call (.func 77 [] []) false [a9, y0, a8] m10 fun a11 m12 =>
  extractK a11 0 fun a13 =>
  extractK a11 1 fun a14 =>
  loadK none y3 m12 fun a15 m16 =>
  callK call (.func 77 [] []) false [a15, y1, a8] m16 fun a17 m18 =>
  extractK a17 0 fun a19 =>
  extractK a17 1 fun a20 =>
  loadK none y4 m18 fun a21 m22 =>
  callK call a21 false [a13, a19] m22 fun a23 m24 =>
  loadK none y2 m24 fun a25 m26 =>
  loadK (some 2) y5 m26 fun a27 m28 =>
  loadK none y3 m28 fun a29 m30 =>
  loadK none y4 m30 fun a31 m32 =>
  callK call a31 false [a14, a20] m32 fun a33 m34 =>
  buildK [(.int .i64 0), (.int .i64 0), (.int .i64 0)] [(0, 1, AV.untag1 a8), (1, 1, AV.untag1 a23), (2, 1, AV.untag1 a33)] fun a35 =>
  callK call (.func 50 [] []) false [a29, a35] m34 fun a36 m37 =>
  mapUpdateK ⟨[.i, .i], true⟩ a25 a27 a36 m37 fun a38 m39 =>
  cond (stayK [m24, m34, m37, m39] [(fun m => m.load none y2, a25, 0, 3, true), (fun m => m.load (some 2) y5, a27, 0, 3, true), (fun m => m.load none y3, a29, 0, 2, true)]) (loadK none y2 m39 fun a40 m41 =>
  loadK (some 2) y5 m41 fun a42 m43 =>
  lookupK ⟨[.i, .i], true⟩ (.int .i64 0) false a40 a42 m43 fun a44 =>
  retK false false m0 [a44] m43) none) none
theorem g75_2 (call : CL) (n : Nat) (m0 : Mem) (y0 y1 y2 y3 y4 y5 : AV) (m : Mem) : evK call n b75_2 [(0, y0), (1, y1), (3, y2), (4, y3), (5, y4), (11, y5)] m (fun e m => endK f75 m0 .nrm e m) (endK f75 m0) = G75_2 call n m0 y0 y1 y2 y3 y4 y5 m := by kernel_rfl
def k75_2 (call : CL) (n : Nat) (m0 : Mem) : KN := (fun e m => endK f75 m0 .nrm e m)
def x75_2 (call : CL) (n : Nat) (m0 : Mem) : KX := (endK f75 m0)
def S75_2 (call : CL) (n : Nat) (m0 : Mem) (y0 y1 y2 y3 y4 y5 : AV) (m : Mem) : Rho := G75_2 call n m0 y0 y1 y2 y3 y4 y5 m
def d75_2 (call : CL) (n : Nat) (m0 : Mem) (y0 y1 y2 y3 y4 y5 : AV) (m : Mem) : Rho := evK call n b75_2 [(0, y0), (1, y1), (3, y2), (4, y3), (5, y4), (11, y5)] m (k75_2 call n m0) (x75_2 call n m0)
theorem l75_2 {call : CL} {n : Nat} {m0 : Mem} : d75_2 call n m0 = S75_2 call n m0 := by
  funext y0 y1 y2 y3 y4 y5 m
  have h : d75_2 call n m0 y0 y1 y2 y3 y4 y5 m = G75_2 call n m0 y0 y1 y2 y3 y4 y5 m := Eq.mp (by kernel_rfl) (g75_2 call n m0 y0 y1 y2 y3 y4 y5 m)
  exact h
def G75_3 (call : CL) (n : Nat) (m0 : Mem) (Q75_2 : Y6) (y0 y1 y2 y3 y4 : AV) (m : Mem) : Rho :=
  buildK [(.int .i64 0), (.int .i64 0)] [(0, 1, AV.untag1 y0), (1, 1, AV.untag1 y1)] fun a0 =>
  newK [(.int .i64 0), (.int .i64 0)] m fun a1 m2 =>
  storeK 2 a1 a0 m2 fun a3 m4 =>
  loadK none y2 m4 fun a5 m6 =>
  loadK (some 2) a1 m6 fun a7 m8 =>
  lookupK ⟨[.i, .i], true⟩ (.int .i64 0) true a5 a7 m8 fun a9 =>
  extractK a9 0 fun a10 =>
  extractK a9 1 fun a11 =>
  condK a11
  (retK false false m0 [a10] m8)
  (Q75_2 y0 y1 y2 y3 y4 a1 m8)
theorem g75_3 (call : CL) (n : Nat) (m0 : Mem) (b75_2 : C) (y0 y1 y2 y3 y4 : AV) (m : Mem) : evK call n (c75_3 b75_2) [(0, y0), (1, y1), (3, y2), (4, y3), (5, y4)] m (fun e m => endK f75 m0 .nrm e m) (endK f75 m0) = G75_3 call n m0 (fun x0 x1 x2 x3 x4 x5 m => evK call n b75_2 [(0, x0), (1, x1), (3, x2), (4, x3), (5, x4), (11, x5)] m (fun e m => endK f75 m0 .nrm e m) (endK f75 m0)) y0 y1 y2 y3 y4 m := by kernel_rfl
def k75_3 (call : CL) (n : Nat) (m0 : Mem) : KN := (fun e m => endK f75 m0 .nrm e m)
def x75_3 (call : CL) (n : Nat) (m0 : Mem) : KX := (endK f75 m0)
def S75_3 (call : CL) (n : Nat) (m0 : Mem) (y0 y1 y2 y3 y4 : AV) (m : Mem) : Rho := G75_3 call n m0 (S75_2 call n m0) y0 y1 y2 y3 y4 m
def d75_3 (call : CL) (n : Nat) (m0 : Mem) (y0 y1 y2 y3 y4 : AV) (m : Mem) : Rho := evK call n b75_3 [(0, y0), (1, y1), (3, y2), (4, y3), (5, y4)] m (k75_3 call n m0) (x75_3 call n m0)
theorem l75_3 {call : CL} {n : Nat} {m0 : Mem} : d75_3 call n m0 = S75_3 call n m0 := by
  funext y0 y1 y2 y3 y4 m
  have h : d75_3 call n m0 y0 y1 y2 y3 y4 m = G75_3 call n m0 (d75_2 call n m0) y0 y1 y2 y3 y4 m := Eq.mp (by kernel_rfl) (g75_3 call n m0 b75_2 y0 y1 y2 y3 y4 m)
  rw [l75_2] at h; exact h
def G75 (call : CL) (n : Nat) (m0 : Mem) (Q75_3 : Y5) (y0 y1 y2 y3 y4 y5 : AV) (m : Mem) : Rho :=
  loadK none y2 m fun a0 m1 =>
  callK call a0 false [y0, y1] m1 fun a2 m3 =>
  extractK a2 0 fun a4 =>
  extractK a2 1 fun a5 =>
  condK a5
  (retK false false m0 [a4] m3)
  (Q75_3 y0 y1 y3 y4 y5 m3)
theorem g75 (call : CL) (n : Nat) (m0 : Mem) (b75_3 : C) (y0 y1 y2 y3 y4 y5 : AV) (m : Mem) : evK call n (c75 b75_3) [(0, y0), (1, y1), (2, y2), (3, y3), (4, y4), (5, y5)] m (fun e m => endK f75 m0 .nrm e m) (endK f75 m0) = G75 call n m0 (fun x0 x1 x2 x3 x4 m => evK call n b75_3 [(0, x0), (1, x1), (3, x2), (4, x3), (5, x4)] m (fun e m => endK f75 m0 .nrm e m) (endK f75 m0)) y0 y1 y2 y3 y4 y5 m := by kernel_rfl
def S75 (call : CL) (n : Nat) (m0 : Mem) (y0 y1 y2 y3 y4 y5 : AV) : Rho := G75 call n m0 (S75_3 call n m0) y0 y1 y2 y3 y4 y5 { m0 with bad := none }
theorem s75 (call : CL) (n : Nat) (m0 : Mem) (y0 y1 y2 y3 y4 y5 : AV) : bodyK call n f75 [y0, y1, y2, y3, y4, y5] m0 = S75 call n m0 y0 y1 y2 y3 y4 y5 :=
  have h : bodyK call n f75 [y0, y1, y2, y3, y4, y5] m0 = G75 call n m0 (d75_3 call n m0) y0 y1 y2 y3 y4 y5 { m0 with bad := none } := Eq.mp (by kernel_rfl) (g75 call n m0 b75_3 y0 y1 y2 y3 y4 y5 { m0 with bad := none })
  by rw [l75_3] at h; exact h
def F75 : SF := fun call n vs m0 => unc vs fun x0 vs => unc vs fun x1 vs => unc vs fun x2 vs => unc vs fun x3 vs => unc vs fun x4 vs => unc vs fun x5 vs => unz vs (S75 call n m0 x0 x1 x2 x3 x4 x5)
theorem F75_ok {orc : List AV → Mem → Option (AV × Mem)} : SOk 75 { f75 with orc := orc } F75 := by
  intro call n vs m0 ho r h0
  simp only [F75] at h0
  obtain ⟨y0, v0, rfl, h1⟩ := unc_some h0
  obtain ⟨y1, v1, rfl, h2⟩ := unc_some h1
  obtain ⟨y2, v2, rfl, h3⟩ := unc_some h2
  obtain ⟨y3, v3, rfl, h4⟩ := unc_some h3
  obtain ⟨y4, v4, rfl, h5⟩ := unc_some h4
  obtain ⟨y5, v5, rfl, h6⟩ := unc_some h5
  obtain ⟨rfl, hz⟩ := unz_some h6
  exact bodyK_le ho rfl r (Eq.mp (by kernel_rfl) ((s75 call n m0 y0 y1 y2 y3 y4 y5).trans hz))

-- (*resolvent/pos.table).top
def G76_0 (call : CL) (n : Nat) (m0 : Mem) (y0 y1 : AV) (m : Mem) : Rho :=
  nilK y0 fun a0 =>
  vK (aFieldAddr 0 1 a0) m fun a1 m2 =>
  loadK none a1 m2 fun a3 m4 =>
  binK .sub y1 (.int .i64 2) fun a5 =>
  vK (aIndexAddr m4 3 a3 a5) m4 fun a6 m7 =>
  vK (aFieldAddr 0 1 a6) m7 fun a8 m9 =>
  loadK none a8 m9 fun a10 m11 =>
  retK false false m0 [a10] m11
theorem g76_0 (call : CL) (n : Nat) (m0 : Mem) (y0 y1 : AV) (m : Mem) : evK call n b76_0 [(0, y0), (1, y1)] m (fun e m => endK f76 m0 .nrm e m) (endK f76 m0) = G76_0 call n m0 y0 y1 m := by kernel_rfl
def k76_0 (call : CL) (n : Nat) (m0 : Mem) : KN := (fun e m => endK f76 m0 .nrm e m)
def x76_0 (call : CL) (n : Nat) (m0 : Mem) : KX := (endK f76 m0)
def S76_0 (call : CL) (n : Nat) (m0 : Mem) (y0 y1 : AV) (m : Mem) : Rho := G76_0 call n m0 y0 y1 m
def d76_0 (call : CL) (n : Nat) (m0 : Mem) (y0 y1 : AV) (m : Mem) : Rho := evK call n b76_0 [(0, y0), (1, y1)] m (k76_0 call n m0) (x76_0 call n m0)
theorem l76_0 {call : CL} {n : Nat} {m0 : Mem} : d76_0 call n m0 = S76_0 call n m0 := by
  funext y0 y1 m
  have h : d76_0 call n m0 y0 y1 m = G76_0 call n m0 y0 y1 m := Eq.mp (by kernel_rfl) (g76_0 call n m0 y0 y1 m)
  exact h
def G76 (call : CL) (n : Nat) (m0 : Mem) (Q76_0 : Y2) (y0 y1 : AV) (m : Mem) : Rho :=
  binK .lss y1 (.int .i64 2) fun a0 =>
  condK a0
  (retK false false m0 [(.int .i64 9223372036854775807)] m)
  (Q76_0 y0 y1 m)
theorem g76 (call : CL) (n : Nat) (m0 : Mem) (b76_0 : C) (y0 y1 : AV) (m : Mem) : evK call n (c76 b76_0) [(0, y0), (1, y1)] m (fun e m => endK f76 m0 .nrm e m) (endK f76 m0) = G76 call n m0 (fun x0 x1 m => evK call n b76_0 [(0, x0), (1, x1)] m (fun e m => endK f76 m0 .nrm e m) (endK f76 m0)) y0 y1 m := by kernel_rfl
def S76 (call : CL) (n : Nat) (m0 : Mem) (y0 y1 : AV) : Rho := G76 call n m0 (S76_0 call n m0) y0 y1 { m0 with bad := none }
theorem s76 (call : CL) (n : Nat) (m0 : Mem) (y0 y1 : AV) : bodyK call n f76 [y0, y1] m0 = S76 call n m0 y0 y1 :=
  have h : bodyK call n f76 [y0, y1] m0 = G76 call n m0 (d76_0 call n m0) y0 y1 { m0 with bad := none } := Eq.mp (by kernel_rfl) (g76 call n m0 b76_0 y0 y1 { m0 with bad := none })
  by rw [l76_0] at h; exact h
def F76 : SF := fun call n vs m0 => unc vs fun x0 vs => unc vs fun x1 vs => unz vs (S76 call n m0 x0 x1)
theorem F76_ok {orc : List AV → Mem → Option (AV × Mem)} : SOk 76 { f76 with orc := orc } F76 := by
  intro call n vs m0 ho r h0
  simp only [F76] at h0
  obtain ⟨y0, v0, rfl, h1⟩ := unc_some h0
  obtain ⟨y1, v1, rfl, h2⟩ := unc_some h1
  obtain ⟨rfl, hz⟩ := unz_some h2
  exact bodyK_le ho rfl r (Eq.mp (by kernel_rfl) ((s76 call n m0 y0 y1).trans hz))

-- (*resolvent/pos.table).ways
def G77_1 (call : CL) (n : Nat) (m0 : Mem) (y0 y1 : AV) (m : Mem) : Rho :=
  nilK y0 fun a0 =>
  vK (aFieldAddr 0 1 a0) m fun a1 m2 =>
  loadK none a1 m2 fun a3 m4 =>
  binK .sub y1 (.int .i64 2) fun a5 =>
  vK (aIndexAddr m4 3 a3 a5) m4 fun a6 m7 =>
  vK (aFieldAddr 1 1 a6) m7 fun a8 m9 =>
  loadK none a8 m9 fun a10 m11 =>
  nilK y0 fun a12 =>
  vK (aFieldAddr 0 1 a12) m11 fun a13 m14 =>
  loadK none a13 m14 fun a15 m16 =>
  binK .sub y1 (.int .i64 2) fun a17 =>
  vK (aIndexAddr m16 3 a15 a17) m16 fun a18 m19 =>
  vK (aFieldAddr 2 1 a18) m19 fun a20 m21 =>
  loadK none a20 m21 fun a22 m23 =>
  retK false false m0 [a10, a22] m23
theorem g77_1 (call : CL) (n : Nat) (m0 : Mem) (y0 y1 : AV) (m : Mem) : evK call n b77_1 [(0, y0), (1, y1)] m (fun e m => endK f77 m0 .nrm e m) (endK f77 m0) = G77_1 call n m0 y0 y1 m := by kernel_rfl
def k77_1 (call : CL) (n : Nat) (m0 : Mem) : KN := (fun e m => endK f77 m0 .nrm e m)
def x77_1 (call : CL) (n : Nat) (m0 : Mem) : KX := (endK f77 m0)
def S77_1 (call : CL) (n : Nat) (m0 : Mem) (y0 y1 : AV) (m : Mem) : Rho := G77_1 call n m0 y0 y1 m
def d77_1 (call : CL) (n : Nat) (m0 : Mem) (y0 y1 : AV) (m : Mem) : Rho := evK call n b77_1 [(0, y0), (1, y1)] m (k77_1 call n m0) (x77_1 call n m0)
theorem l77_1 {call : CL} {n : Nat} {m0 : Mem} : d77_1 call n m0 = S77_1 call n m0 := by
  funext y0 y1 m
  have h : d77_1 call n m0 y0 y1 m = G77_1 call n m0 y0 y1 m := Eq.mp (by kernel_rfl) (g77_1 call n m0 y0 y1 m)
  exact h
def G77 (call : CL) (n : Nat) (m0 : Mem) (Q77_1 : Y2) (y0 y1 y2 : AV) (m : Mem) : Rho :=
  callK call (.func 76 [] []) false [y0, y1] m fun a0 m1 =>
  binK .neq a0 y2 fun a2 =>
  condK a2
  (retK false false m0 [y1, y1] m1)
  (Q77_1 y0 y1 m1)
theorem g77 (call : CL) (n : Nat) (m0 : Mem) (b77_1 : C) (y0 y1 y2 : AV) (m : Mem) : evK call n (c77 b77_1) [(0, y0), (1, y1), (2, y2)] m (fun e m => endK f77 m0 .nrm e m) (endK f77 m0) = G77 call n m0 (fun x0 x1 m => evK call n b77_1 [(0, x0), (1, x1)] m (fun e m => endK f77 m0 .nrm e m) (endK f77 m0)) y0 y1 y2 m := by kernel_rfl
def S77 (call : CL) (n : Nat) (m0 : Mem) (y0 y1 y2 : AV) : Rho := G77 call n m0 (S77_1 call n m0) y0 y1 y2 { m0 with bad := none }
theorem s77 (call : CL) (n : Nat) (m0 : Mem) (y0 y1 y2 : AV) : bodyK call n f77 [y0, y1, y2] m0 = S77 call n m0 y0 y1 y2 :=
  have h : bodyK call n f77 [y0, y1, y2] m0 = G77 call n m0 (d77_1 call n m0) y0 y1 y2 { m0 with bad := none } := Eq.mp (by kernel_rfl) (g77 call n m0 b77_1 y0 y1 y2 { m0 with bad := none })
  by rw [l77_1] at h; exact h
def F77 : SF := fun call n vs m0 => unc vs fun x0 vs => unc vs fun x1 vs => unc vs fun x2 vs => unz vs (S77 call n m0 x0 x1 x2)
theorem F77_ok {orc : List AV → Mem → Option (AV × Mem)} : SOk 77 { f77 with orc := orc } F77 := by
  intro call n vs m0 ho r h0
  simp only [F77] at h0
  obtain ⟨y0, v0, rfl, h1⟩ := unc_some h0
  obtain ⟨y1, v1, rfl, h2⟩ := unc_some h1
  obtain ⟨y2, v2, rfl, h3⟩ := unc_some h2
  obtain ⟨rfl, hz⟩ := unz_some h3
  exact bodyK_le ho rfl r (Eq.mp (by kernel_rfl) ((s77 call n m0 y0 y1 y2).trans hz))

-- resolvent/pos.bit
def G78_0 (call : CL) (n : Nat) (m0 : Mem) (m : Mem) : Rho :=
  retK false false m0 [(.int .i64 0)] m
theorem g78_0 (call : CL) (n : Nat) (m0 : Mem) (m : Mem) : evK call n b78_0 [] m (fun e m => endK f78 m0 .nrm e m) (endK f78 m0) = G78_0 call n m0 m := by kernel_rfl
def k78_0 (call : CL) (n : Nat) (m0 : Mem) : KN := (fun e m => endK f78 m0 .nrm e m)
def x78_0 (call : CL) (n : Nat) (m0 : Mem) : KX := (endK f78 m0)
def S78_0 (call : CL) (n : Nat) (m0 : Mem) (m : Mem) : Rho := G78_0 call n m0 m
def d78_0 (call : CL) (n : Nat) (m0 : Mem) (m : Mem) : Rho := evK call n b78_0 [] m (k78_0 call n m0) (x78_0 call n m0)
theorem l78_0 {call : CL} {n : Nat} {m0 : Mem} : d78_0 call n m0 = S78_0 call n m0 := by
  funext m
  have h : d78_0 call n m0 m = G78_0 call n m0 m := Eq.mp (by kernel_rfl) (g78_0 call n m0 m)
  exact h
def G78 (call : CL) (n : Nat) (m0 : Mem) (Q78_0 : Y0) (y0 : AV) (m : Mem) : Rho :=
  condK y0
  (retK false false m0 [(.int .i64 1)] m)
  (Q78_0 m)
theorem g78 (call : CL) (n : Nat) (m0 : Mem) (b78_0 : C) (y0 : AV) (m : Mem) : evK call n (c78 b78_0) [(0, y0)] m (fun e m => endK f78 m0 .nrm e m) (endK f78 m0) = G78 call n m0 (fun m => evK call n b78_0 [] m (fun e m => endK f78 m0 .nrm e m) (endK f78 m0)) y0 m := by kernel_rfl
def S78 (call : CL) (n : Nat) (m0 : Mem) (y0 : AV) : Rho := G78 call n m0 (S78_0 call n m0) y0 { m0 with bad := none }
theorem s78 (call : CL) (n : Nat) (m0 : Mem) (y0 : AV) : bodyK call n f78 [y0] m0 = S78 call n m0 y0 :=
  have h : bodyK call n f78 [y0] m0 = G78 call n m0 (d78_0 call n m0) y0 { m0 with bad := none } := Eq.mp (by kernel_rfl) (g78 call n m0 b78_0 y0 { m0 with bad := none })
  by rw [l78_0] at h; exact h
def F78 : SF := fun call n vs m0 => unc vs fun x0 vs => unz vs (S78 call n m0 x0)
theorem F78_ok {orc : List AV → Mem → Option (AV × Mem)} : SOk 78 { f78 with orc := orc } F78 := by
  intro call n vs m0 ho r h0
  simp only [F78] at h0
  obtain ⟨y0, v0, rfl, h1⟩ := unc_some h0
  obtain ⟨rfl, hz⟩ := unz_some h1
  exact bodyK_le ho rfl r (Eq.mp (by kernel_rfl) ((s78 call n m0 y0).trans hz))

-- slices.Index[[]int,int]
def G79_3 (call : CL) (n : Nat) (m0 : Mem) (m : Mem) : Rho :=
  retK false false m0 [(.int .i64 (-1))] m
theorem g79_3 (call : CL) (n : Nat) (m0 : Mem) (m : Mem) : evK call n b79_3 [] m (fun e m => endK f79 m0 .nrm e m) (endK f79 m0) = G79_3 call n m0 m := by kernel_rfl
def k79_3 (call : CL) (n : Nat) (m0 : Mem) : KN := (fun e m => endK f79 m0 .nrm e m)
def x79_3 (call : CL) (n : Nat) (m0 : Mem) : KX := (endK f79 m0)
def S79_3 (call : CL) (n : Nat) (m0 : Mem) (m : Mem) : Rho := G79_3 call n m0 m
def d79_3 (call : CL) (n : Nat) (m0 : Mem) (m : Mem) : Rho := evK call n b79_3 [] m (k79_3 call n m0) (x79_3 call n m0)
theorem l79_3 {call : CL} {n : Nat} {m0 : Mem} : d79_3 call n m0 = S79_3 call n m0 := by
  funext m
  have h : d79_3 call n m0 m = G79_3 call n m0 m := Eq.mp (by kernel_rfl) (g79_3 call n m0 m)
  exact h
def G79_0 (call : CL) (n : Nat) (kn : KN) (kx : KX) (y0 y1 y2 y3 : AV) (m : Mem) : Rho :=
  binK .add y3 (.int .i64 1) fun a0 =>
  kn [(0, y0), (1, y1), (7, y2), (8, a0)] m
theorem g79_0 (call : CL) (n : Nat) (kn : KN) (kx : KX) (y0 y1 y2 y3 : AV) (m : Mem) : evK call n b79_0 [(0, y0), (1, y1), (7, y2), (8, y3)] m kn kx = G79_0 call n kn kx y0 y1 y2 y3 m := by kernel_rfl
def k79_0 (call : CL) (n : Nat) (kn : KN) (kx : KX) : KN := kn
def x79_0 (call : CL) (n : Nat) (kn : KN) (kx : KX) : KX := kx
def S79_0 (call : CL) (n : Nat) (kn : KN) (kx : KX) (y0 y1 y2 y3 : AV) (m : Mem) : Rho := G79_0 call n kn kx y0 y1 y2 y3 m
def d79_0 (call : CL) (n : Nat) (kn : KN) (kx : KX) (y0 y1 y2 y3 : AV) (m : Mem) : Rho := evK call n b79_0 [(0, y0), (1, y1), (7, y2), (8, y3)] m (k79_0 call n kn kx) (x79_0 call n kn kx)
theorem l79_0 {call : CL} {n : Nat} {kn : KN} {kx : KX} : d79_0 call n kn kx = S79_0 call n kn kx := by
  funext y0 y1 y2 y3 m
  have h : d79_0 call n kn kx y0 y1 y2 y3 m = G79_0 call n kn kx y0 y1 y2 y3 m := Eq.mp (by kernel_rfl) (g79_0 call n kn kx y0 y1 y2 y3 m)
  exact h
def G79_1 (call : CL) (n : Nat) (kn : KN) (kx : KX) (Q79_0 : Y4) (y0 y1 y2 y3 : AV) (m : Mem) : Rho :=
  vK (aIndexAddr m 1 y0 y3) m fun a0 m1 =>
  loadK none a0 m1 fun a2 m3 =>
  binK .eql y1 a2 fun a4 =>
  condK a4
  (kx .ret [(4, y3)] m3)
  (Q79_0 y0 y1 y2 y3 m3)
theorem g79_1 (call : CL) (n : Nat) (kn : KN) (kx : KX) (b79_0 : C) (y0 y1 y2 y3 : AV) (m : Mem) : evK call n (c79_1 b79_0) [(0, y0), (1, y1), (7, y2), (8, y3)] m kn kx = G79_1 call n kn kx (fun x0 x1 x2 x3 m => evK call n b79_0 [(0, x0), (1, x1), (7, x2), (8, x3)] m kn kx) y0 y1 y2 y3 m := by kernel_rfl
def k79_1 (call : CL) (n : Nat) (kn : KN) (kx : KX) : KN := kn
def x79_1 (call : CL) (n : Nat) (kn : KN) (kx : KX) : KX := kx
def S79_1 (call : CL) (n : Nat) (kn : KN) (kx : KX) (y0 y1 y2 y3 : AV) (m : Mem) : Rho := G79_1 call n kn kx (S79_0 call n kn kx) y0 y1 y2 y3 m
def d79_1 (call : CL) (n : Nat) (kn : KN) (kx : KX) (y0 y1 y2 y3 : AV) (m : Mem) : Rho := evK call n b79_1 [(0, y0), (1, y1), (7, y2), (8, y3)] m (k79_1 call n kn kx) (x79_1 call n kn kx)
theorem l79_1 {call : CL} {n : Nat} {kn : KN} {kx : KX} : d79_1 call n kn kx = S79_1 call n kn kx := by
  funext y0 y1 y2 y3 m
  have h : d79_1 call n kn kx y0 y1 y2 y3 m = G79_1 call n kn kx (d79_0 call n kn kx) y0 y1 y2 y3 m := Eq.mp (by kernel_rfl) (g79_1 call n kn kx b79_0 y0 y1 y2 y3 m)
  rw [l79_0] at h; exact h
def G79_2 (call : CL) (n : Nat) (kn : KN) (kx : KX) (Q79_1 : Y4) (y0 y1 y2 y3 : AV) (m : Mem) : Rho :=
  binK .lss y3 y2 fun a0 =>
  condK a0
  (Q79_1 y0 y1 y2 y3 m)
  (kx (.ext 0) [(0, y0), (1, y1), (7, y2), (8, y3), (9, a0)] m)
theorem g79_2 (call : CL) (n : Nat) (kn : KN) (kx : KX) (b79_1 : C) (y0 y1 y2 y3 : AV) (m : Mem) : evK call n (c79_2 b79_1) [(0, y0), (1, y1), (7, y2), (8, y3)] m kn kx = G79_2 call n kn kx (fun x0 x1 x2 x3 m => evK call n b79_1 [(0, x0), (1, x1), (7, x2), (8, x3)] m kn kx) y0 y1 y2 y3 m := by kernel_rfl
def S79_2 (call : CL) (n : Nat) (kn : KN) (kx : KX) (y0 y1 y2 y3 : AV) (m : Mem) : Rho := G79_2 call n kn kx (S79_1 call n kn kx) y0 y1 y2 y3 m
def d79_2 (call : CL) (n : Nat) (kn : KN) (kx : KX) (y0 y1 y2 y3 : AV) (m : Mem) : Rho := evK call n b79_2 [(0, y0), (1, y1), (7, y2), (8, y3)] m kn kx
theorem l79_2 {call : CL} {n : Nat} : d79_2 call n = S79_2 call n := by
  funext kn kx y0 y1 y2 y3 m
  have h : d79_2 call n kn kx y0 y1 y2 y3 m = G79_2 call n kn kx (d79_1 call n kn kx) y0 y1 y2 y3 m := Eq.mp (by kernel_rfl) (g79_2 call n kn kx b79_1 y0 y1 y2 y3 m)
  rw [l79_1] at h; exact h
def G79 (call : CL) (n : Nat) (m0 : Mem) (B79_2 : KN → KX → Y4) (Q79_3 : Y0) (y0 y1 : AV) (m : Mem) : Rho :=
  vK (aLen m 1 y0) m fun a0 m1 =>
  loopV [0, 1, 7, 8] none (fun vs m kn kx => unc vs fun x0 vs => unc vs fun x1 vs => unc vs fun x2 vs => unc vs fun x3 vs => unz vs (B79_2 kn kx x0 x1 x2 x3 m)) (blkK 0 (fun e m => keepK e [] fun vs => unz vs (Q79_3 m)) (endK f79 m0)) n [y0, y1, a0, (.int .i64 0)] m1
theorem g79 (call : CL) (n : Nat) (m0 : Mem) (b79_2 : C) (b79_3 : C) (y0 y1 : AV) (m : Mem) : evK call n (c79 b79_2 b79_3) [(0, y0), (1, y1)] m (fun e m => endK f79 m0 .nrm e m) (endK f79 m0) = G79 call n m0 (fun kn kx x0 x1 x2 x3 m => evK call n b79_2 [(0, x0), (1, x1), (7, x2), (8, x3)] m kn kx) (fun m => evK call n b79_3 [] m (fun e m => endK f79 m0 .nrm e m) (endK f79 m0)) y0 y1 m := by kernel_rfl
def S79 (call : CL) (n : Nat) (m0 : Mem) (y0 y1 : AV) : Rho := G79 call n m0 (S79_2 call n) (S79_3 call n m0) y0 y1 { m0 with bad := none }
theorem s79 (call : CL) (n : Nat) (m0 : Mem) (y0 y1 : AV) : bodyK call n f79 [y0, y1] m0 = S79 call n m0 y0 y1 :=
  have h : bodyK call n f79 [y0, y1] m0 = G79 call n m0 (d79_2 call n) (d79_3 call n m0) y0 y1 { m0 with bad := none } := Eq.mp (by kernel_rfl) (g79 call n m0 b79_2 b79_3 y0 y1 { m0 with bad := none })
  by rw [l79_2, l79_3] at h; exact h
def F79 : SF := fun call n vs m0 => unc vs fun x0 vs => unc vs fun x1 vs => unz vs (S79 call n m0 x0 x1)
theorem F79_ok {orc : List AV → Mem → Option (AV × Mem)} : SOk 79 { f79 with orc := orc } F79 := by
  intro call n vs m0 ho r h0
  simp only [F79] at h0
  obtain ⟨y0, v0, rfl, h1⟩ := unc_some h0
  obtain ⟨y1, v1, rfl, h2⟩ := unc_some h1
  obtain ⟨rfl, hz⟩ := unz_some h2
  exact bodyK_le ho rfl r (Eq.mp (by kernel_rfl) ((s79 call n m0 y0 y1).trans hz))

-- (*resolvent/pos.table).take$1
def G80_0 (call : CL) (n : Nat) (m0 : Mem) (y0 y1 y2 y3 y4 : AV) (m : Mem) : Rho :=
  loadK none y2 m fun a0 m1 =>
  nilK a0 fun a2 =>
  vK (aFieldAddr 0 1 a2) m1 fun a3 m4 =>
  loadK none a3 m4 fun a5 m6 =>
  binK .sub y0 (.int .i64 2) fun a7 =>
  vK (aIndexAddr m6 3 a5 a7) m6 fun a8 m9 =>
  loadK (some 3) a8 m9 fun a10 m11 =>
  newK [(.int .i64 0), (.int .i64 0), (.int .i64 0)] m11 fun a12 m13 =>
  storeK 3 a12 a10 m13 fun a14 m15 =>
  loadK none y3 m15 fun a16 m17 =>
  vK (aFieldAddr 1 1 a12) m17 fun a18 m19 =>
  loadK none a18 m19 fun a20 m21 =>
  callK call a16 false [a20] m21 fun a22 m23 =>
  loadK none y3 m23 fun a24 m25 =>
  vK (aFieldAddr 2 1 a12) m25 fun a26 m27 =>
  loadK none a26 m27 fun a28 m29 =>
  callK call a24 false [a28] m29 fun a30 m31 =>
  vK (aFieldAddr 0 1 y4) m31 fun a32 m33 =>
  loadK none a32 m33 fun a34 m35 =>
  vK (aFieldAddr 0 1 a12) m35 fun a36 m37 =>
  loadK none a36 m37 fun a38 m39 =>
  buildK [(.int .i64 0), (.int .i64 0), (.int .i64 0)] [(0, 1, AV.untag1 a38), (1, 1, AV.untag1 a22), (2, 1, AV.untag1 a30)] fun a40 =>
  buildSliceK 3 [(.int .i64 0), (.int .i64 0), (.int .i64 0)] 1 false [(0 * 3, 3, AV.untag a40)] m39 fun a41 m42 =>
  appendK 3 24 0 a34 a41 m42 fun a43 m44 =>
  vK (aFieldAddr 0 1 y4) m44 fun a45 m46 =>
  storeK 1 a45 a43 m46 fun a47 m48 =>
  loadK none y1 m48 fun a49 m50 =>
  vK (aFieldAddr 0 1 y4) m50 fun a51 m52 =>
  loadK none a51 m52 fun a53 m54 =>
  vK (aLen m54 1 a53) m54 fun a55 m56 =>
  binK .add a55 (.int .i64 1) fun a57 =>
  mapUpdateK ⟨[.i], false⟩ a49 y0 a57 m56 fun a58 m59 =>
  loadK none y1 m59 fun a60 m61 =>
  lookupK ⟨[.i], false⟩ (.int .i64 0) false a60 y0 m61 fun a62 =>
  retK false false m0 [a62] m61
theorem g80_0 (call : CL) (n : Nat) (m0 : Mem) (y0 y1 y2 y3 y4 : AV) (m : Mem) : evK call n b80_0 [(0, y0), (1, y1), (2, y2), (3, y3), (4, y4)] m (fun e m => endK f80 m0 .nrm e m) (endK f80 m0) = G80_0 call n m0 y0 y1 y2 y3 y4 m := by kernel_rfl
def k80_0 (call : CL) (n : Nat) (m0 : Mem) : KN := (fun e m => endK f80 m0 .nrm e m)
def x80_0 (call : CL) (n : Nat) (m0 : Mem) : KX := (endK f80 m0)
def S80_0 (call : CL) (n : Nat) (m0 : Mem) (y0 y1 y2 y3 y4 : AV) (m : Mem) : Rho := G80_0 call n m0 y0 y1 y2 y3 y4 m
def d80_0 (call : CL) (n : Nat) (m0 : Mem) (y0 y1 y2 y3 y4 : AV) (m : Mem) : Rho := evK call n b80_0 [(0, y0), (1, y1), (2, y2), (3, y3), (4, y4)] m (k80_0 call n m0) (x80_0 call n m0)
theorem l80_0 {call : CL} {n : Nat} {m0 : Mem} : d80_0 call n m0 = S80_0 call n m0 := by
  funext y0 y1 y2 y3 y4 m
  have h : d80_0 call n m0 y0 y1 y2 y3 y4 m = G80_0 call n m0 y0 y1 y2 y3 y4 m := Eq.mp (by kernel_rfl) (g80_0 call n m0 y0 y1 y2 y3 y4 m)
  exact h
def G80 (call : CL) (n : Nat) (m0 : Mem) (Q80_0 : Y5) (y0 y1 y2 y3 y4 : AV) (m : Mem) : Rho :=
  loadK none y1 m fun a0 m1 =>
  lookupK ⟨[.i], false⟩ (.int .i64 0) true a0 y0 m1 fun a2 =>
  extractK a2 0 fun a3 =>
  extractK a2 1 fun a4 =>
  condK a4
  (retK false false m0 [a3] m1)
  (Q80_0 y0 y1 y2 y3 y4 m1)
theorem g80 (call : CL) (n : Nat) (m0 : Mem) (b80_0 : C) (y0 y1 y2 y3 y4 : AV) (m : Mem) : evK call n (c80 b80_0) [(0, y0), (1, y1), (2, y2), (3, y3), (4, y4)] m (fun e m => endK f80 m0 .nrm e m) (endK f80 m0) = G80 call n m0 (fun x0 x1 x2 x3 x4 m => evK call n b80_0 [(0, x0), (1, x1), (2, x2), (3, x3), (4, x4)] m (fun e m => endK f80 m0 .nrm e m) (endK f80 m0)) y0 y1 y2 y3 y4 m := by kernel_rfl
def S80 (call : CL) (n : Nat) (m0 : Mem) (y0 y1 y2 y3 y4 : AV) : Rho := G80 call n m0 (S80_0 call n m0) y0 y1 y2 y3 y4 { m0 with bad := none }
theorem s80 (call : CL) (n : Nat) (m0 : Mem) (y0 y1 y2 y3 y4 : AV) : bodyK call n f80 [y0, y1, y2, y3, y4] m0 = S80 call n m0 y0 y1 y2 y3 y4 :=
  have h : bodyK call n f80 [y0, y1, y2, y3, y4] m0 = G80 call n m0 (d80_0 call n m0) y0 y1 y2 y3 y4 { m0 with bad := none } := Eq.mp (by kernel_rfl) (g80 call n m0 b80_0 y0 y1 y2 y3 y4 { m0 with bad := none })
  by rw [l80_0] at h; exact h
def F80 : SF := fun call n vs m0 => unc vs fun x0 vs => unc vs fun x1 vs => unc vs fun x2 vs => unc vs fun x3 vs => unc vs fun x4 vs => unz vs (S80 call n m0 x0 x1 x2 x3 x4)
theorem F80_ok {orc : List AV → Mem → Option (AV × Mem)} : SOk 80 { f80 with orc := orc } F80 := by
  intro call n vs m0 ho r h0
  simp only [F80] at h0
  obtain ⟨y0, v0, rfl, h1⟩ := unc_some h0
  obtain ⟨y1, v1, rfl, h2⟩ := unc_some h1
  obtain ⟨y2, v2, rfl, h3⟩ := unc_some h2
  obtain ⟨y3, v3, rfl, h4⟩ := unc_some h3
  obtain ⟨y4, v4, rfl, h5⟩ := unc_some h4
  obtain ⟨rfl, hz⟩ := unz_some h5
  exact bodyK_le ho rfl r (Eq.mp (by kernel_rfl) ((s80 call n m0 y0 y1 y2 y3 y4).trans hz))

-- resolvent/resolventlaw16.tables
def G81_0 (call : CL) (n : Nat) (m0 : Mem) (y0 y1 : AV) (m : Mem) : Rho :=
  loadK (some 2) y1 m fun a0 m1 =>
  storeK 2 y0 a0 m1 fun a2 m3 =>
  loadK (some 2) y0 m3 fun a4 _ =>
  retK false false m0 [a4] m3
theorem g81_0 (call : CL) (n : Nat) (m0 : Mem) (y0 y1 : AV) (m : Mem) : evK call n b81_0 [(4, y0), (5, y1)] m (fun e m => endK f81 m0 .nrm e m) (endK f81 m0) = G81_0 call n m0 y0 y1 m := by kernel_rfl
def k81_0 (call : CL) (n : Nat) (m0 : Mem) : KN := (fun e m => endK f81 m0 .nrm e m)
def x81_0 (call : CL) (n : Nat) (m0 : Mem) : KX := (endK f81 m0)
def S81_0 (call : CL) (n : Nat) (m0 : Mem) (y0 y1 : AV) (m : Mem) : Rho := G81_0 call n m0 y0 y1 m
def d81_0 (call : CL) (n : Nat) (m0 : Mem) (y0 y1 : AV) (m : Mem) : Rho := evK call n b81_0 [(4, y0), (5, y1)] m (k81_0 call n m0) (x81_0 call n m0)
theorem l81_0 {call : CL} {n : Nat} {m0 : Mem} : d81_0 call n m0 = S81_0 call n m0 := by
  funext y0 y1 m
  have h : d81_0 call n m0 y0 y1 m = G81_0 call n m0 y0 y1 m := Eq.mp (by kernel_rfl) (g81_0 call n m0 y0 y1 m)
  exact h
def G81 (call : CL) (n : Nat) (m0 : Mem) (Q81_0 : Y2) (y0 y1 : AV) (m : Mem) : Rho :=
  boxK y0 m fun a0 m1 =>
  newK [(.int .u64 0), (.int .u64 0)] m1 fun a2 m3 =>
  buildK [(.int .u64 0), (.int .u64 0)] [] fun a4 =>
  newK [(.int .u64 0), (.int .u64 0)] m3 fun a5 m6 =>
  storeK 2 a5 a4 m6 fun a7 m8 =>
  vK (aLen m8 1 y1) m8 fun a9 m10 =>
  binK .gtr a9 (.int .i64 0) fun a11 =>
  condK a11
  (vK (aFieldAddr 2 1 a0) m10 fun a12 m13 =>
  loadK none a12 m13 fun a14 m15 =>
  vK (aLen m15 1 y1) m15 fun a16 m17 =>
  callK call (.func 54 [] []) false [a14, a16] m17 fun a18 m19 =>
  vK (aIndexAddr m19 1 y1 a18) m19 fun a20 m21 =>
  loadK none a20 m21 fun a22 m23 =>
  vK (aIndexAddrA 2 1 a5 (.int .i64 0)) m23 fun a24 m25 =>
  storeK 1 a24 a22 m25 fun a26 m27 =>
  vK (aFieldAddr 3 1 a0) m27 fun a28 m29 =>
  loadK none a28 m29 fun a30 m31 =>
  vK (aLen m31 1 y1) m31 fun a32 m33 =>
  callK call (.func 54 [] []) false [a30, a32] m33 fun a34 m35 =>
  vK (aIndexAddr m35 1 y1 a34) m35 fun a36 m37 =>
  loadK none a36 m37 fun a38 m39 =>
  vK (aIndexAddrA 2 1 a5 (.int .i64 1)) m39 fun a40 m41 =>
  storeK 1 a40 a38 m41 fun a42 m43 =>
  Q81_0 a2 a5 m43)
  (Q81_0 a2 a5 m10)
theorem g81 (call : CL) (n : Nat) (m0 : Mem) (b81_0 : C) (y0 y1 : AV) (m : Mem) : evK call n (c81 b81_0) [(0, y0), (1, y1)] m (fun e m => endK f81 m0 .nrm e m) (endK f81 m0) = G81 call n m0 (fun x0 x1 m => evK call n b81_0 [(4, x0), (5, x1)] m (fun e m => endK f81 m0 .nrm e m) (endK f81 m0)) y0 y1 m := by kernel_rfl
def S81 (call : CL) (n : Nat) (m0 : Mem) (y0 y1 : AV) : Rho := G81 call n m0 (S81_0 call n m0) y0 y1 { m0 with bad := none }
theorem s81 (call : CL) (n : Nat) (m0 : Mem) (y0 y1 : AV) : bodyK call n f81 [y0, y1] m0 = S81 call n m0 y0 y1 :=
  have h : bodyK call n f81 [y0, y1] m0 = G81 call n m0 (d81_0 call n m0) y0 y1 { m0 with bad := none } := Eq.mp (by kernel_rfl) (g81 call n m0 b81_0 y0 y1 { m0 with bad := none })
  by rw [l81_0] at h; exact h
def F81 : SF := fun call n vs m0 => unc vs fun x0 vs => unc vs fun x1 vs => unz vs (S81 call n m0 x0 x1)
theorem F81_ok {orc : List AV → Mem → Option (AV × Mem)} : SOk 81 { f81 with orc := orc } F81 := by
  intro call n vs m0 ho r h0
  simp only [F81] at h0
  obtain ⟨y0, v0, rfl, h1⟩ := unc_some h0
  obtain ⟨y1, v1, rfl, h2⟩ := unc_some h1
  obtain ⟨rfl, hz⟩ := unz_some h2
  exact bodyK_le ho rfl r (Eq.mp (by kernel_rfl) ((s81 call n m0 y0 y1).trans hz))

-- resolvent/resolventlaw16.renamed
def G82_10 (call : CL) (n : Nat) (m0 : Mem) (y0 y1 : AV) (m : Mem) : Rho :=
  binK .shr y0 y1 fun a0 =>
  binK .and a0 (.int .u64 1) fun a1 =>
  binK .eql a1 (.int .u64 1) fun a2 =>
  retK false false m0 [a2] m
theorem g82_10 (call : CL) (n : Nat) (m0 : Mem) (y0 y1 : AV) (m : Mem) : evK call n b82_10 [(1, y0), (7, y1)] m (fun e m => endK f82 m0 .nrm e m) (endK f82 m0) = G82_10 call n m0 y0 y1 m := by kernel_rfl
def k82_10 (call : CL) (n : Nat) (m0 : Mem) : KN := (fun e m => endK f82 m0 .nrm e m)
def x82_10 (call : CL) (n : Nat) (m0 : Mem) : KX := (endK f82 m0)
def S82_10 (call : CL) (n : Nat) (m0 : Mem) (y0 y1 : AV) (m : Mem) : Rho := G82_10 call n m0 y0 y1 m
def d82_10 (call : CL) (n : Nat) (m0 : Mem) (y0 y1 : AV) (m : Mem) : Rho := evK call n b82_10 [(1, y0), (7, y1)] m (k82_10 call n m0) (x82_10 call n m0)
theorem l82_10 {call : CL} {n : Nat} {m0 : Mem} : d82_10 call n m0 = S82_10 call n m0 := by
  funext y0 y1 m
  have h : d82_10 call n m0 y0 y1 m = G82_10 call n m0 y0 y1 m := Eq.mp (by kernel_rfl) (g82_10 call n m0 y0 y1 m)
  exact h
def G82_7 (call : CL) (n : Nat) (kn : KN) (kx : KX) (y0 y1 y2 y3 y4 y5 : AV) (m : Mem) : Rho :=
  binK .add y5 (.int .i64 1) fun a0 =>
  kn [(1, y0), (2, y1), (3, y2), (7, y3), (8, y4), (9, a0)] m
theorem g82_7 (call : CL) (n : Nat) (kn : KN) (kx : KX) (y0 y1 y2 y3 y4 y5 : AV) (m : Mem) : evK call n b82_7 [(1, y0), (2, y1), (3, y2), (7, y3), (8, y4), (9, y5)] m kn kx = G82_7 call n kn kx y0 y1 y2 y3 y4 y5 m := by kernel_rfl
def k82_7 (call : CL) (n : Nat) (kn : KN) (kx : KX) : KN := kn
def x82_7 (call : CL) (n : Nat) (kn : KN) (kx : KX) : KX := kx
def S82_7 (call : CL) (n : Nat) (kn : KN) (kx : KX) (y0 y1 y2 y3 y4 y5 : AV) (m : Mem) : Rho := G82_7 call n kn kx y0 y1 y2 y3 y4 y5 m
def d82_7 (call : CL) (n : Nat) (kn : KN) (kx : KX) (y0 y1 y2 y3 y4 y5 : AV) (m : Mem) : Rho := evK call n b82_7 [(1, y0), (2, y1), (3, y2), (7, y3), (8, y4), (9, y5)] m (k82_7 call n kn kx) (x82_7 call n kn kx)
theorem l82_7 {call : CL} {n : Nat} {kn : KN} {kx : KX} : d82_7 call n kn kx = S82_7 call n kn kx := by
  funext y0 y1 y2 y3 y4 y5 m
  have h : d82_7 call n kn kx y0 y1 y2 y3 y4 y5 m = G82_7 call n kn kx y0 y1 y2 y3 y4 y5 m := Eq.mp (by kernel_rfl) (g82_7 call n kn kx y0 y1 y2 y3 y4 y5 m)
  exact h
def G82_4 (call : CL) (n : Nat) (kn : KN) (kx : KX) (Q82_7 : Y6) (y0 y1 y2 y3 y4 y5 : AV) (m : Mem) : Rho :=
  vK (aFieldAddr 4 1 y2) m fun a0 m1 =>
  loadK none a0 m1 fun a2 m3 =>
  vK (aIndexAddr m3 1 a2 y5) m3 fun a4 m5 =>
  loadK none a4 m5 fun a6 m7 =>
  buildSliceK 1 [(.int .i64 0)] 1 false [(0 * 1, 1, AV.untag a6)] m7 fun a8 m9 =>
  appendK 1 8 0 y4 a8 m9 fun a10 m11 =>
  vK (aFieldAddr 4 1 y2) m11 fun a12 m13 =>
  loadK none a12 m13 fun a14 m15 =>
  vK (aIndexAddr m15 1 a14 y5) m15 fun a16 m17 =>
  loadK none a16 m17 fun a18 m19 =>
  callK call (.func 58 [] []) false [y1, a18] m19 fun a20 m21 =>
  condK a20
  (binK .shl (.int .i64 1) y5 fun a22 =>
  binK .or y3 a22 fun a23 =>
  Q82_7 y0 y1 y2 a23 a10 y5 m21)
  (Q82_7 y0 y1 y2 y3 a10 y5 m21)
theorem g82_4 (call : CL) (n : Nat) (kn : KN) (kx : KX) (b82_7 : C) (k82_7 : KN) (x82_7 : KX) (y0 y1 y2 y3 y4 y5 : AV) (m : Mem) : evK call n b82_4 [(1, y0), (2, y1), (3, y2), (7, y3), (8, y4), (9, y5)] m (jn call n [1, 2, 3, 7, 8, 9] b82_7 k82_7 x82_7) (blkK 1 (jn call n [1, 2, 3, 7, 8, 9] b82_7 k82_7 x82_7) kx) = G82_4 call n kn kx (fun x0 x1 x2 x3 x4 x5 m => evK call n b82_7 [(1, x0), (2, x1), (3, x2), (7, x3), (8, x4), (9, x5)] m k82_7 x82_7) y0 y1 y2 y3 y4 y5 m := by kernel_rfl
def k82_4 (call : CL) (n : Nat) (kn : KN) (kx : KX) : KN := (jn call n [1, 2, 3, 7, 8, 9] b82_7 (k82_7 call n kn kx) (x82_7 call n kn kx))
def x82_4 (call : CL) (n : Nat) (kn : KN) (kx : KX) : KX := (blkK 1 (jn call n [1, 2, 3, 7, 8, 9] b82_7 (k82_7 call n kn kx) (x82_7 call n kn kx)) kx)
def S82_4 (call : CL) (n : Nat) (kn : KN) (kx : KX) (y0 y1 y2 y3 y4 y5 : AV) (m : Mem) : Rho := G82_4 call n kn kx (S82_7 call n kn kx) y0 y1 y2 y3 y4 y5 m
def d82_4 (call : CL) (n : Nat) (kn : KN) (kx : KX) (y0 y1 y2 y3 y4 y5 : AV) (m : Mem) : Rho := evK call n b82_4 [(1, y0), (2, y1), (3, y2), (7, y3), (8, y4), (9, y5)] m (k82_4 call n kn kx) (x82_4 call n kn kx)
theorem l82_4 {call : CL} {n : Nat} {kn : KN} {kx : KX} : d82_4 call n kn kx = S82_4 call n kn kx := by
  funext y0 y1 y2 y3 y4 y5 m
  have h : d82_4 call n kn kx y0 y1 y2 y3 y4 y5 m = G82_4 call n kn kx (d82_7 call n kn kx) y0 y1 y2 y3 y4 y5 m := Eq.mp (by kernel_rfl) (g82_4 call n kn kx b82_7 (k82_7 call n kn kx) (x82_7 call n kn kx) y0 y1 y2 y3 y4 y5 m)
  rw [l82_7] at h; exact h
def G82_1 (call : CL) (n : Nat) (kn : KN) (kx : KX) (y0 y1 y2 y3 y4 y5 y6 : AV) (m : Mem) : Rho :=
  binK .add y6 (.int .i64 1) fun a0 =>
  kn [(1, y0), (2, y1), (3, y2), (7, y3), (8, y4), (9, y5), (10, a0)] m
theorem g82_1 (call : CL) (n : Nat) (kn : KN) (kx : KX) (y0 y1 y2 y3 y4 y5 y6 : AV) (m : Mem) : evK call n b82_1 [(1, y0), (2, y1), (3, y2), (7, y3), (8, y4), (9, y5), (10, y6)] m kn kx = G82_1 call n kn kx y0 y1 y2 y3 y4 y5 y6 m := by kernel_rfl
def k82_1 (call : CL) (n : Nat) (kn : KN) (kx : KX) : KN := kn
def x82_1 (call : CL) (n : Nat) (kn : KN) (kx : KX) : KX := kx
def S82_1 (call : CL) (n : Nat) (kn : KN) (kx : KX) (y0 y1 y2 y3 y4 y5 y6 : AV) (m : Mem) : Rho := G82_1 call n kn kx y0 y1 y2 y3 y4 y5 y6 m
def d82_1 (call : CL) (n : Nat) (kn : KN) (kx : KX) (y0 y1 y2 y3 y4 y5 y6 : AV) (m : Mem) : Rho := evK call n b82_1 [(1, y0), (2, y1), (3, y2), (7, y3), (8, y4), (9, y5), (10, y6)] m (k82_1 call n kn kx) (x82_1 call n kn kx)
theorem l82_1 {call : CL} {n : Nat} {kn : KN} {kx : KX} : d82_1 call n kn kx = S82_1 call n kn kx := by
  funext y0 y1 y2 y3 y4 y5 y6 m
  have h : d82_1 call n kn kx y0 y1 y2 y3 y4 y5 y6 m = G82_1 call n kn kx y0 y1 y2 y3 y4 y5 y6 m := Eq.mp (by kernel_rfl) (g82_1 call n kn kx y0 y1 y2 y3 y4 y5 y6 m)
  exact h
def G82_2 (call : CL) (n : Nat) (kn : KN) (kx : KX) (Q82_1 : Y7) (y0 y1 y2 y3 y4 y5 y6 : AV) (m : Mem) : Rho :=
  vK (aIndexAddr m 1 y4 y6) m fun a0 m1 =>
  loadK none a0 m1 fun a2 m3 =>
  vK (aFieldAddr 4 1 y2) m3 fun a4 m5 =>
  loadK none a4 m5 fun a6 m7 =>
  vK (aIndexAddr m7 1 a6 y5) m7 fun a8 m9 =>
  loadK none a8 m9 fun a10 m11 =>
  binK .eql a2 a10 fun a12 =>
  condK a12
  (kx .ret [(6, (.bool true))] m11)
  (Q82_1 y0 y1 y2 y3 y4 y5 y6 m11)
theorem g82_2 (call : CL) (n : Nat) (kn : KN) (kx : KX) (b82_1 : C) (y0 y1 y2 y3 y4 y5 y6 : AV) (m : Mem) : evK call n (c82_2 b82_1) [(1, y0), (2, y1), (3, y2), (7, y3), (8, y4), (9, y5), (10, y6)] m kn kx = G82_2 call n kn kx (fun x0 x1 x2 x3 x4 x5 x6 m => evK call n b82_1 [(1, x0), (2, x1), (3, x2), (7, x3), (8, x4), (9, x5), (10, x6)] m kn kx) y0 y1 y2 y3 y4 y5 y6 m := by kernel_rfl
def k82_2 (call : CL) (n : Nat) (kn : KN) (kx : KX) : KN := kn
def x82_2 (call : CL) (n : Nat) (kn : KN) (kx : KX) : KX := kx
def S82_2 (call : CL) (n : Nat) (kn : KN) (kx : KX) (y0 y1 y2 y3 y4 y5 y6 : AV) (m : Mem) : Rho := G82_2 call n kn kx (S82_1 call n kn kx) y0 y1 y2 y3 y4 y5 y6 m
def d82_2 (call : CL) (n : Nat) (kn : KN) (kx : KX) (y0 y1 y2 y3 y4 y5 y6 : AV) (m : Mem) : Rho := evK call n b82_2 [(1, y0), (2, y1), (3, y2), (7, y3), (8, y4), (9, y5), (10, y6)] m (k82_2 call n kn kx) (x82_2 call n kn kx)
theorem l82_2 {call : CL} {n : Nat} {kn : KN} {kx : KX} : d82_2 call n kn kx = S82_2 call n kn kx := by
  funext y0 y1 y2 y3 y4 y5 y6 m
  have h : d82_2 call n kn kx y0 y1 y2 y3 y4 y5 y6 m = G82_2 call n kn kx (d82_1 call n kn kx) y0 y1 y2 y3 y4 y5 y6 m := Eq.mp (by kernel_rfl) (g82_2 call n kn kx b82_1 y0 y1 y2 y3 y4 y5 y6 m)
  rw [l82_1] at h; exact h
def G82_3 (call : CL) (n : Nat) (kn : KN) (kx : KX) (Q82_2 : Y7) (y0 y1 y2 y3 y4 y5 y6 : AV) (m : Mem) : Rho :=
  vK (aLen m 1 y4) m fun a0 m1 =>
  binK .lss y6 a0 fun a2 =>
  condK a2
  (Q82_2 y0 y1 y2 y3 y4 y5 y6 m1)
  (kx (.ext 2) [(1, y0), (2, y1), (3, y2), (7, y3), (8, y4), (9, y5), (10, y6), (35, a2)] m1)
theorem g82_3 (call : CL) (n : Nat) (kn : KN) (kx : KX) (b82_2 : C) (y0 y1 y2 y3 y4 y5 y6 : AV) (m : Mem) : evK call n (c82_3 b82_2) [(1, y0), (2, y1), (3, y2), (7, y3), (8, y4), (9, y5), (10, y6)] m kn kx = G82_3 call n kn kx (fun x0 x1 x2 x3 x4 x5 x6 m => evK call n b82_2 [(1, x0), (2, x1), (3, x2), (7, x3), (8, x4), (9, x5), (10, x6)] m kn kx) y0 y1 y2 y3 y4 y5 y6 m := by kernel_rfl
def S82_3 (call : CL) (n : Nat) (kn : KN) (kx : KX) (y0 y1 y2 y3 y4 y5 y6 : AV) (m : Mem) : Rho := G82_3 call n kn kx (S82_2 call n kn kx) y0 y1 y2 y3 y4 y5 y6 m
def d82_3 (call : CL) (n : Nat) (kn : KN) (kx : KX) (y0 y1 y2 y3 y4 y5 y6 : AV) (m : Mem) : Rho := evK call n b82_3 [(1, y0), (2, y1), (3, y2), (7, y3), (8, y4), (9, y5), (10, y6)] m kn kx
theorem l82_3 {call : CL} {n : Nat} : d82_3 call n = S82_3 call n := by
  funext kn kx y0 y1 y2 y3 y4 y5 y6 m
  have h : d82_3 call n kn kx y0 y1 y2 y3 y4 y5 y6 m = G82_3 call n kn kx (d82_2 call n kn kx) y0 y1 y2 y3 y4 y5 y6 m := Eq.mp (by kernel_rfl) (g82_3 call n kn kx b82_2 y0 y1 y2 y3 y4 y5 y6 m)
  rw [l82_2] at h; exact h
def G82_5 (call : CL) (n : Nat) (kn : KN) (kx : KX) (B82_3 : KN → KX → Y7) (Q82_4 : Y6) (Q82_7 : Y6) (y0 y1 y2 y3 y4 y5 : AV) (m : Mem) : Rho :=
  loopV [1, 2, 3, 7, 8, 9, 10] none (fun vs m kn kx => unc vs fun x0 vs => unc vs fun x1 vs => unc vs fun x2 vs => unc vs fun x3 vs => unc vs fun x4 vs => unc vs fun x5 vs => unc vs fun x6 vs => unz vs (B82_3 kn kx x0 x1 x2 x3 x4 x5 x6 m)) (blkK 2 (fun e m => keepK e [1, 2, 3, 7, 8, 9] fun vs => unc vs fun x0 vs => unc vs fun x1 vs => unc vs fun x2 vs => unc vs fun x3 vs => unc vs fun x4 vs => unc vs fun x5 vs => unz vs (Q82_4 x0 x1 x2 x3 x4 x5 m)) (blkK 1 (fun e m => keepK e [1, 2, 3, 7, 8, 9] fun vs => unc vs fun x0 vs => unc vs fun x1 vs => unc vs fun x2 vs => unc vs fun x3 vs => unc vs fun x4 vs => unc vs fun x5 vs => unz vs (Q82_7 x0 x1 x2 x3 x4 x5 m)) kx)) n [y0, y1, y2, y3, y4, y5, (.int .i64 0)] m
theorem g82_5 (call : CL) (n : Nat) (kn : KN) (kx : KX) (b82_3 : C) (b82_4 : C) (b82_7 : C) (k82_7 : KN) (x82_7 : KX) (y0 y1 y2 y3 y4 y5 : AV) (m : Mem) : evK call n (c82_5 b82_3 b82_4) [(1, y0), (2, y1), (3, y2), (7, y3), (8, y4), (9, y5)] m (jn call n [1, 2, 3, 7, 8, 9] b82_7 k82_7 x82_7) (blkK 1 (jn call n [1, 2, 3, 7, 8, 9] b82_7 k82_7 x82_7) kx) = G82_5 call n kn kx (fun kn kx x0 x1 x2 x3 x4 x5 x6 m => evK call n b82_3 [(1, x0), (2, x1), (3, x2), (7, x3), (8, x4), (9, x5), (10, x6)] m kn kx) (fun x0 x1 x2 x3 x4 x5 m => evK call n b82_4 [(1, x0), (2, x1), (3, x2), (7, x3), (8, x4), (9, x5)] m (jn call n [1, 2, 3, 7, 8, 9] b82_7 k82_7 x82_7) (blkK 1 (jn call n [1, 2, 3, 7, 8, 9] b82_7 k82_7 x82_7) kx)) (fun x0 x1 x2 x3 x4 x5 m => evK call n b82_7 [(1, x0), (2, x1), (3, x2), (7, x3), (8, x4), (9, x5)] m k82_7 x82_7) y0 y1 y2 y3 y4 y5 m := by kernel_rfl
def k82_5 (call : CL) (n : Nat) (kn : KN) (kx : KX) : KN := (jn call n [1, 2, 3, 7, 8, 9] b82_7 (k82_7 call n kn kx) (x82_7 call n kn kx))
def x82_5 (call : CL) (n : Nat) (kn : KN) (kx : KX) : KX := (blkK 1 (jn call n [1, 2, 3, 7, 8, 9] b82_7 (k82_7 call n kn kx) (x82_7 call n kn kx)) kx)
def S82_5 (call : CL) (n : Nat) (kn : KN) (kx : KX) (y0 y1 y2 y3 y4 y5 : AV) (m : Mem) : Rho := G82_5 call n kn kx (S82_3 call n) (S82_4 call n kn kx) (S82_7 call n kn kx) y0 y1 y2 y3 y4 y5 m
def d82_5 (call : CL) (n : Nat) (kn : KN) (kx : KX) (y0 y1 y2 y3 y4 y5 : AV) (m : Mem) : Rho := evK call n b82_5 [(1, y0), (2, y1), (3, y2), (7, y3), (8, y4), (9, y5)] m (k82_5 call n kn kx) (x82_5 call n kn kx)
theorem l82_5 {call : CL} {n : Nat} {kn : KN} {kx : KX} : d82_5 call n kn kx = S82_5 call n kn kx := by
  funext y0 y1 y2 y3 y4 y5 m
  have h : d82_5 call n kn kx y0 y1 y2 y3 y4 y5 m = G82_5 call n kn kx (d82_3 call n) (d82_4 call n kn kx) (d82_7 call n kn kx) y0 y1 y2 y3 y4 y5 m := Eq.mp (by kernel_rfl) (g82_5 call n kn kx b82_3 b82_4 b82_7 (k82_7 call n kn kx) (x82_7 call n kn kx) y0 y1 y2 y3 y4 y5 m)
  rw [l82_3, l82_4, l82_7] at h; exact h
def G82_6 (call : CL) (n : Nat) (kn : KN) (kx : KX) (Q82_5 : Y6) (y0 y1 y2 y3 y4 y5 : AV) (m : Mem) : Rho :=
  vK (aFieldAddr 4 1 y2) m fun a0 m1 =>
  loadK none a0 m1 fun a2 m3 =>
  vK (aLen m3 1 a2) m3 fun a4 m5 =>
  binK .geq y5 a4 fun a6 =>
  gK a6 false (fun k => vK (aFieldAddr 4 1 y2) m5 fun a7 m8 =>
  k a7 m8) m5 fun a9 m10 =>
  gK a6 false (fun k => loadK none a9 m10 fun a11 m12 =>
  k a11 m12) m10 fun a13 m14 =>
  gK a6 false (fun k => k y5 m14) m14 fun a15 m16 =>
  gK a6 false (fun k => vK (aIndexAddr m16 1 a13 a15) m16 fun a17 m18 =>
  k a17 m18) m16 fun a19 m20 =>
  gK a6 false (fun k => loadK none a19 m20 fun a21 m22 =>
  k a21 m22) m20 fun a23 m24 =>
  gK a6 false (fun k => binK .lss a23 (.int .i64 0) fun a25 =>
  k a25 m24) m24 fun a26 m27 =>
  pickK a6 (some (.bool true)) (some a26) fun a28 =>
  condK a28
  (kx .ret [(6, (.bool true))] m27)
  (Q82_5 y0 y1 y2 y3 y4 y5 m27)
theorem g82_6 (call : CL) (n : Nat) (kn : KN) (kx : KX) (b82_5 : C) (b82_7 : C) (k82_7 : KN) (x82_7 : KX) (y0 y1 y2 y3 y4 y5 : AV) (m : Mem) : evK call n (c82_6 b82_5) [(1, y0), (2, y1), (3, y2), (7, y3), (8, y4), (9, y5)] m (jn call n [1, 2, 3, 7, 8, 9] b82_7 k82_7 x82_7) (blkK 1 (jn call n [1, 2, 3, 7, 8, 9] b82_7 k82_7 x82_7) kx) = G82_6 call n kn kx (fun x0 x1 x2 x3 x4 x5 m => evK call n b82_5 [(1, x0), (2, x1), (3, x2), (7, x3), (8, x4), (9, x5)] m (jn call n [1, 2, 3, 7, 8, 9] b82_7 k82_7 x82_7) (blkK 1 (jn call n [1, 2, 3, 7, 8, 9] b82_7 k82_7 x82_7) kx)) y0 y1 y2 y3 y4 y5 m := by kernel_rfl
def k82_6 (call : CL) (n : Nat) (kn : KN) (kx : KX) : KN := (jn call n [1, 2, 3, 7, 8, 9] b82_7 (k82_7 call n kn kx) (x82_7 call n kn kx))
def x82_6 (call : CL) (n : Nat) (kn : KN) (kx : KX) : KX := (blkK 1 (jn call n [1, 2, 3, 7, 8, 9] b82_7 (k82_7 call n kn kx) (x82_7 call n kn kx)) kx)
def S82_6 (call : CL) (n : Nat) (kn : KN) (kx : KX) (y0 y1 y2 y3 y4 y5 : AV) (m : Mem) : Rho := G82_6 call n kn kx (S82_5 call n kn kx) y0 y1 y2 y3 y4 y5 m
def d82_6 (call : CL) (n : Nat) (kn : KN) (kx : KX) (y0 y1 y2 y3 y4 y5 : AV) (m : Mem) : Rho := evK call n b82_6 [(1, y0), (2, y1), (3, y2), (7, y3), (8, y4), (9, y5)] m (k82_6 call n kn kx) (x82_6 call n kn kx)
theorem l82_6 {call : CL} {n : Nat} {kn : KN} {kx : KX} : d82_6 call n kn kx = S82_6 call n kn kx := by
  funext y0 y1 y2 y3 y4 y5 m
  have h : d82_6 call n kn kx y0 y1 y2 y3 y4 y5 m = G82_6 call n kn kx (d82_5 call n kn kx) y0 y1 y2 y3 y4 y5 m := Eq.mp (by kernel_rfl) (g82_6 call n kn kx b82_5 b82_7 (k82_7 call n kn kx) (x82_7 call n kn kx) y0 y1 y2 y3 y4 y5 m)
  rw [l82_5] at h; exact h
def G82_8 (call : CL) (n : Nat) (kn : KN) (kx : KX) (Q82_7 : Y6) (Q82_6 : Y6) (y0 y1 y2 y3 y4 y5 : AV) (m : Mem) : Rho :=
  callK call (.func 18 [] []) false [y0, y5] m fun a0 m1 =>
  unK .not a0 fun a2 =>
  condK a2
  (Q82_7 y0 y1 y2 y3 y4 y5 m1)
  (Q82_6 y0 y1 y2 y3 y4 y5 m1)
theorem g82_8 (call : CL) (n : Nat) (kn : KN) (kx : KX) (b82_6 : C) (b82_7 : C) (y0 y1 y2 y3 y4 y5 : AV) (m : Mem) : evK call n (c82_8 b82_6 b82_7) [(1, y0), (2, y1), (3, y2), (7, y3), (8, y4), (9, y5)] m kn kx = G82_8 call n kn kx (fun x0 x1 x2 x3 x4 x5 m => evK call n b82_7 [(1, x0), (2, x1), (3, x2), (7, x3), (8, x4), (9, x5)] m kn kx) (fun x0 x1 x2 x3 x4 x5 m => evK call n b82_6 [(1, x0), (2, x1), (3, x2), (7, x3), (8, x4), (9, x5)] m (jn call n [1, 2, 3, 7, 8, 9] b82_7 kn kx) (blkK 1 (jn call n [1, 2, 3, 7, 8, 9] b82_7 kn kx) kx)) y0 y1 y2 y3 y4 y5 m := by kernel_rfl
def k82_8 (call : CL) (n : Nat) (kn : KN) (kx : KX) : KN := kn
def x82_8 (call : CL) (n : Nat) (kn : KN) (kx : KX) : KX := kx
def S82_8 (call : CL) (n : Nat) (kn : KN) (kx : KX) (y0 y1 y2 y3 y4 y5 : AV) (m : Mem) : Rho := G82_8 call n kn kx (S82_7 call n kn kx) (S82_6 call n kn kx) y0 y1 y2 y3 y4 y5 m
def d82_8 (call : CL) (n : Nat) (kn : KN) (kx : KX) (y0 y1 y2 y3 y4 y5 : AV) (m : Mem) : Rho := evK call n b82_8 [(1, y0), (2, y1), (3, y2), (7, y3), (8, y4), (9, y5)] m (k82_8 call n kn kx) (x82_8 call n kn kx)
theorem l82_8 {call : CL} {n : Nat} {kn : KN} {kx : KX} : d82_8 call n kn kx = S82_8 call n kn kx := by
  funext y0 y1 y2 y3 y4 y5 m
  have h : d82_8 call n kn kx y0 y1 y2 y3 y4 y5 m = G82_8 call n kn kx (d82_7 call n kn kx) (d82_6 call n kn kx) y0 y1 y2 y3 y4 y5 m := Eq.mp (by kernel_rfl) (g82_8 call n kn kx b82_6 b82_7 y0 y1 y2 y3 y4 y5 m)
  rw [l82_7, l82_6] at h; exact h
def G82_9 (call : CL) (n : Nat) (kn : KN) (kx : KX) (Q82_8 : Y6) (y0 y1 y2 y3 y4 y5 : AV) (m : Mem) : Rho :=
  binK .lss y5 (.int .i64 6) fun a0 =>
  condK a0
  (Q82_8 y0 y1 y2 y3 y4 y5 m)
  (kx (.ext 0) [(1, y0), (2, y1), (3, y2), (7, y3), (8, y4), (9, y5), (12, a0)] m)
theorem g82_9 (call : CL) (n : Nat) (kn : KN) (kx : KX) (b82_8 : C) (y0 y1 y2 y3 y4 y5 : AV) (m : Mem) : evK call n (c82_9 b82_8) [(1, y0), (2, y1), (3, y2), (7, y3), (8, y4), (9, y5)] m kn kx = G82_9 call n kn kx (fun x0 x1 x2 x3 x4 x5 m => evK call n b82_8 [(1, x0), (2, x1), (3, x2), (7, x3), (8, x4), (9, x5)] m kn kx) y0 y1 y2 y3 y4 y5 m := by kernel_rfl
def S82_9 (call : CL) (n : Nat) (kn : KN) (kx : KX) (y0 y1 y2 y3 y4 y5 : AV) (m : Mem) : Rho := G82_9 call n kn kx (S82_8 call n kn kx) y0 y1 y2 y3 y4 y5 m
def d82_9 (call : CL) (n : Nat) (kn : KN) (kx : KX) (y0 y1 y2 y3 y4 y5 : AV) (m : Mem) : Rho := evK call n b82_9 [(1, y0), (2, y1), (3, y2), (7, y3), (8, y4), (9, y5)] m kn kx
theorem l82_9 {call : CL} {n : Nat} : d82_9 call n = S82_9 call n := by
  funext kn kx y0 y1 y2 y3 y4 y5 m
  have h : d82_9 call n kn kx y0 y1 y2 y3 y4 y5 m = G82_9 call n kn kx (d82_8 call n kn kx) y0 y1 y2 y3 y4 y5 m := Eq.mp (by kernel_rfl) (g82_9 call n kn kx b82_8 y0 y1 y2 y3 y4 y5 m)
  rw [l82_8] at h; exact h
def G82 (call : CL) (n : Nat) (m0 : Mem) (B82_9 : KN → KX → Y6) (Q82_10 : Y2) (y0 y1 y2 : AV) (m : Mem) : Rho :=
  boxK y0 m fun a0 m1 =>
  tipK 1 m1 fun a2 m3 =>
  loopV [1, 2, 3, 7, 8, 9] none (fun vs m kn kx => unc vs fun x0 vs => unc vs fun x1 vs => unc vs fun x2 vs => unc vs fun x3 vs => unc vs fun x4 vs => unc vs fun x5 vs => unz vs (B82_9 kn kx x0 x1 x2 x3 x4 x5 m)) (blkK 0 (fun e m => keepK e [1, 7] fun vs => unc vs fun x0 vs => unc vs fun x1 vs => unz vs (Q82_10 x0 x1 m)) (endK f82 m0)) n [y1, y2, a0, (.int .i64 0), a2, (.int .i64 0)] m3
theorem g82 (call : CL) (n : Nat) (m0 : Mem) (b82_9 : C) (b82_10 : C) (y0 y1 y2 : AV) (m : Mem) : evK call n (c82 b82_9 b82_10) [(0, y0), (1, y1), (2, y2)] m (fun e m => endK f82 m0 .nrm e m) (endK f82 m0) = G82 call n m0 (fun kn kx x0 x1 x2 x3 x4 x5 m => evK call n b82_9 [(1, x0), (2, x1), (3, x2), (7, x3), (8, x4), (9, x5)] m kn kx) (fun x0 x1 m => evK call n b82_10 [(1, x0), (7, x1)] m (fun e m => endK f82 m0 .nrm e m) (endK f82 m0)) y0 y1 y2 m := by kernel_rfl
def S82 (call : CL) (n : Nat) (m0 : Mem) (y0 y1 y2 : AV) : Rho := G82 call n m0 (S82_9 call n) (S82_10 call n m0) y0 y1 y2 { m0 with bad := none }
theorem s82 (call : CL) (n : Nat) (m0 : Mem) (y0 y1 y2 : AV) : bodyK call n f82 [y0, y1, y2] m0 = S82 call n m0 y0 y1 y2 :=
  have h : bodyK call n f82 [y0, y1, y2] m0 = G82 call n m0 (d82_9 call n) (d82_10 call n m0) y0 y1 y2 { m0 with bad := none } := Eq.mp (by kernel_rfl) (g82 call n m0 b82_9 b82_10 y0 y1 y2 { m0 with bad := none })
  by rw [l82_9, l82_10] at h; exact h
def F82 : SF := fun call n vs m0 => unc vs fun x0 vs => unc vs fun x1 vs => unc vs fun x2 vs => unz vs (S82 call n m0 x0 x1 x2)
theorem F82_ok {orc : List AV → Mem → Option (AV × Mem)} : SOk 82 { f82 with orc := orc } F82 := by
  intro call n vs m0 ho r h0
  simp only [F82] at h0
  obtain ⟨y0, v0, rfl, h1⟩ := unc_some h0
  obtain ⟨y1, v1, rfl, h2⟩ := unc_some h1
  obtain ⟨y2, v2, rfl, h3⟩ := unc_some h2
  obtain ⟨rfl, hz⟩ := unz_some h3
  exact bodyK_le ho rfl r (Eq.mp (by kernel_rfl) ((s82 call n m0 y0 y1 y2).trans hz))

end
end Go.Proofs.P16
